/- Plain laws and walks: CodD1, CodD2, CodD3. -/
import Derived.Test.YtpdlgflbcgemnaaGreatDoorCodDp
-- CodD1
/- codec: Decode by shapes: walks. -/
set_option linter.unusedSimpArgs false
set_option linter.unusedVariables false
namespace Go.Proofs.YtpdlgflbcgemnaaGreatDoor
open Go.RowKit Octs
set_option maxHeartbeats 2000000
set_option maxRecDepth 100000
theorem decCore_1 {W wx : World} {l : List Asn} (O : Own W wx l) (s : ByteArray) (hs : s.size ≤ 281474976710656) (k t : Int) (xs : List CmdR) (s1 s2 s3 : ByteArray) (e1 e2 e3 : Bool) (h1 : Octs.rInt s false = (k, s1, e1)) (h2 : Octs.rInt s1 e1 = (t, s2, e2)) (h3 : readL tkC s2 e2 64 = (xs, s3, e3)) (okb : Bool) (kO : ∀ w, Calls Tryz.prog 27 #[nI k] w fun e w' => e = .returned (.tuple #[fldV true false true false false, .bool okb]) ∧ w.Plus w') : Calls Tryz.prog 13 #[.string s] wx (DecPost W l (finM (⟨k, t, 0, xs, [], []⟩ : MsgR) s3 e3)) := by
  have v0 : inv (s, false) := by intro h; cases h
  have z1 := Octs.rInt_size s false
  have v1 := rInt_inv2 s false v0
  rw [h1] at z1 v1
  simp only at z1 v1
  have kF := Lib.hid (fun w l (O : Own W w l) => Octs.of_O (s := s) O hs)
  have k1 := fun w N l (O : Own W w (Octs.rdA N s false :: l)) => Octs.rdInt_O O hs
  rw [h1] at k1
  simp only at k1
  replace k1 := Lib.hid k1
  have z2 := Octs.rInt_size s1 e1
  have v2 := rInt_inv2 s1 e1 v1
  rw [h2] at z2 v2
  simp only at z2 v2
  have k2 := fun w N l (O : Own W w (Octs.rdA N s1 e1 :: l)) => Octs.rdInt_O O (by omega)
  rw [h2] at k2
  simp only at k2
  replace k2 := Lib.hid k2
  have k3 := fun w N l (O : Own W w (Octs.rdA N s2 e2 :: l)) => takeListC_O O (by omega) v2 64 (by decide)
  rw [h3] at k3
  simp only at k3
  replace k3 := Lib.hid k3
  have kK := Lib.hid (fun (w : World) (Al : Option Addr) (cl : Nat) (h : RowsAt w Al 16 xs.length (rowFC xs)) => (show Calls Tryz.prog 26 #[.agg #[nI k, nI t, nI 0, .slice Al xs.length cl, .slice none 0 0, .slice none 0 0]] w fun e w' => e = .returned (nI (if okM (⟨k, t, 0, xs, [], []⟩ : MsgR) then 0 else 1)) ∧ w.Plus w' from checkMsg_any (⟨k, t, 0, xs, [], []⟩ : MsgR) ⟨Al, none, none, cl, 0, 0⟩ w ⟨h, RowsAt.zero _ _ _ _, RowsAt.zero _ _ _ _⟩))
  obtain ⟨D, hD⟩ : ∃ D, D = finM (⟨k, t, 0, xs, [], []⟩ : MsgR) s3 e3 := ⟨_, rfl⟩
  rw [← hD]
  have hF : Octs.rDone s3 e3 = 2 → D = (msZ, 2) := fun p => by rw [hD]; exact finM_bad _ _ _ p
  have hG : Octs.rDone s3 e3 = 0 → D = if okM (⟨k, t, 0, xs, [], []⟩ : MsgR) then ((⟨k, t, 0, xs, [], []⟩ : MsgR), 0) else (msZ, 2) := fun p => by rw [hD]; exact finM_good _ _ _ p
  clear hD
  have O0 := O.newCells [nI 0, nI 0, nI 0, .slice none 0 0, .slice none 0 0, .slice none 0 0] 39
  obtain ⟨w0, hw0⟩ : ∃ q, wx.alloc (.cells #[nI 0, nI 0, nI 0, .slice none 0 0, .slice none 0 0, .slice none 0 0] 39) = q := ⟨_, rfl⟩
  rw [hw0] at O0
  replace O0 := Lib.hid O0
  replace hw0 := Lib.hid hw0
  clear O h1 h2 h3
  replace kO := Lib.hid kO
  go_enter Tryz.func13, Tryz.ntmps13
  go_upto_region 1 with fail
  rw [hw0.out]
  clear hw0
  generalize wx.heap.size = R0 at *
  go_upto_region 2 with (go_at_call 39; (with_reducible refine (kF.out _ _ O0.out).mono ?_); rintro e w1 ⟨N, rfl, O1⟩; replace O1 := Lib.hid O1)
  have j1 := Lib.hid (k1.out _ _ _ O1.out)
  clear kF k1 O1 O0
  go_upto_region 3 with (go_at_call 40; (with_reducible refine j1.out.mono ?_); clear j1; rintro e w2 ⟨rfl, O2⟩)
  have O3 := (O2.newCells [nI k, nI 0, nI 0, .slice none 0 0, .slice none 0 0, .slice none 0 0] 39).rot1
  obtain ⟨w3, hw3⟩ : ∃ q, w2.alloc (.cells #[nI k, nI 0, nI 0, .slice none 0 0, .slice none 0 0, .slice none 0 0] 39) = q := ⟨_, rfl⟩
  rw [hw3] at O3
  rw [hw3]
  clear hw3 O2
  generalize w2.heap.size = C at *
  have x0 := (O3.cells 1 rfl).2.1 0 (by simp)
  simp only [List.getElem?_cons_zero] at x0
  haveI : InW C w3 := ⟨(O3.cells 1 rfl).1⟩
  replace O3 := Lib.hid O3
  go_upto_region 4 with (go_at_call 27; (with_reducible refine (kO.out _).mono ?_); rintro e w' ⟨rfl, e4, rfl⟩)
  clear kO x0
  have O5 := ((O3.out.plus e4).newCells [.bool true, .bool false, .bool true, .bool false, .bool false] 67).rot1
  obtain ⟨w5, hw5⟩ : ∃ q, (w3.plus e4).alloc (.cells #[.bool true, .bool false, .bool true, .bool false, .bool false] 67) = q := ⟨_, rfl⟩
  rw [hw5] at O5
  first | rw [hw5] | skip
  clear hw5 O3
  rw [World.size_plus_eq] at O5
  generalize w3.heap.size + e4.objs.size = F at *
  obtain ⟨lQ, qQ, fQ⟩ := Own.cells 1 O5 rfl
  have y0 := qQ 0 (by simp)
  have y1 := qQ 1 (by simp)
  have y2 := qQ 2 (by simp)
  have y3 := qQ 3 (by simp)
  have y4 := qQ 4 (by simp)
  simp only [List.getElem?_cons_succ, List.getElem?_cons_zero] at y0 y1 y2 y3 y4
  haveI : InW F w5 := ⟨lQ⟩
  clear qQ lQ fQ
  replace O5 := Lib.hid O5
  go_upto_region 5 with fail
  clear y0 y1 y2 y3 y4
  have j2 := Lib.hid (k2.out _ _ _ O5.out)
  clear k2
  go_upto_region 6 with (first
    | (go_at_call 40; (with_reducible refine j2.out.mono ?_); clear j2; rintro e w6 ⟨rfl, O6⟩; replace O6 := Lib.hid O6)
    | (refine wpList_store_O 3 _ _ rfl rfl rfl 2 1 [nI t] [nI k, nI t, nI 0, .slice none 0 0, .slice none 0 0, .slice none 0 0] O6.out rfl rfl rfl (by simp) rfl (by kernel_rfl) rfl ?_; intro w7 O7; replace O7 := Lib.hid O7))
  clear O5 O6
  obtain ⟨lQ, qQ, fQ⟩ := Own.cells 1 O7.out rfl
  have y0 := qQ 0 (by simp)
  have y1 := qQ 1 (by simp)
  have y2 := qQ 2 (by simp)
  have y3 := qQ 3 (by simp)
  have y4 := qQ 4 (by simp)
  simp only [List.getElem?_cons_succ, List.getElem?_cons_zero] at y0 y1 y2 y3 y4
  haveI : InW F w7 := ⟨lQ⟩
  clear qQ lQ fQ
  go_upto_region 9 with fail
  clear y0 y1 y2 y3 y4
  have j3 := Lib.hid (k3.out _ _ _ O7.out)
  clear k3
  go_upto_region 10 with (first
    | (go_at_call 41; (with_reducible refine j3.out.mono ?_); clear j3; rintro e w8 ⟨Al, cl, rfl, O8⟩; replace O8 := Lib.hid O8)
    | (refine wpList_store_O 35 _ _ rfl rfl rfl 3 3 [.slice Al xs.length cl] [nI k, nI t, nI 0, .slice Al xs.length cl, .slice none 0 0, .slice none 0 0] O8.out rfl rfl rfl (by simp) rfl (by kernel_rfl) rfl ?_; intro w9 O9; replace O9 := Lib.hid O9))
  clear O7 O8
  obtain ⟨lQ, qQ, fQ⟩ := Own.cells 2 O9.out rfl
  have y0 := qQ 0 (by simp)
  have y1 := qQ 1 (by simp)
  have y2 := qQ 2 (by simp)
  have y3 := qQ 3 (by simp)
  have y4 := qQ 4 (by simp)
  simp only [List.getElem?_cons_succ, List.getElem?_cons_zero] at y0 y1 y2 y3 y4
  haveI : InW F w9 := ⟨lQ⟩
  clear qQ lQ fQ
  go_upto_region 14 with fail
  clear y0 y1 y2 y3 y4
  have kD := Lib.hid (Octs.rdDone_O O9.out.rot1)
  have kQ := Lib.hid (fun w (p : w9.Plus w) => kK.out w Al cl (slRowsC rfl (Own.sl 0 (Own.atP O9.out w p) rfl)))
  clear kK
  rcases rDone_02 s3 e3 with hd | hd
  case inr =>
    obtain rfl := hF hd
    rw [hd] at kD
    clear hF hG hd kQ
    go_wp2_with (first
      | (go_at_call 47; (with_reducible refine kD.out.mono ?_); rintro e w' ⟨rfl, d1, rfl⟩)
      | (refine wpList_store_O 39 _ _ rfl rfl rfl 4 0 [nI 0, nI 0, nI 0, .slice none 0 0, .slice none 0 0, .slice none 0 0] [nI 0, nI 0, nI 0, .slice none 0 0, .slice none 0 0, .slice none 0 0] (Lib.hid (Own.atP O9.out _ (by (repeat (first | exact Plus.refl _ | apply Plus.plus | apply Plus.alloc | apply Plus.drew))))).out rfl rfl rfl (by simp) rfl (by kernel_rfl) rfl ?_; intro wz OZ; replace OZ := Lib.hid OZ))
    exact bodyPost_ret (v := .tuple #[.agg #[nI 0, nI 0, nI 0, .slice none 0 0, .slice none 0 0, .slice none 0 0], nI 2]) (results_O2 Tryz.results13 _ 4 OZ.out rfl rfl Tryz.underlying39 rfl (by kernel_rfl)) rfl ⟨a0, rfl, msgA_none (OZ.out.drop.drop.drop.drop.drop)⟩
  have hG' := hG hd
  rw [hd] at kD
  clear hF hG hd
  cases hok : okM (⟨k, t, 0, xs, [], []⟩ : MsgR) with
  | false =>
    rw [hok, if_neg (by simp)] at hG'
    subst hG'
    rw [hok] at kQ
    simp only [Bool.false_eq_true, if_false] at kQ
    clear hok
    go_wp2_with (first
      | (go_at_call 47; (with_reducible refine kD.out.mono ?_); rintro e w' ⟨rfl, d1, rfl⟩)
      | (go_at_call 26; (with_reducible refine (kQ.out _ (by (repeat (first | exact Plus.refl _ | apply Plus.plus | apply Plus.alloc | apply Plus.drew)))).mono ?_); rintro e w' ⟨rfl, d2, rfl⟩)
      | (refine wpList_load_O 39 _ rfl rfl 3 0 [nI k, nI t, nI 0, .slice Al xs.length cl, .slice none 0 0, .slice none 0 0] (Own.atP O9.out _ (by (repeat (first | exact Plus.refl _ | apply Plus.plus | apply Plus.alloc | apply Plus.drew)))) rfl rfl (by simp) rfl Tryz.underlying39 rfl (by kernel_rfl) ?_)
      | (refine wpList_store_O 39 _ _ rfl rfl rfl 4 0 [nI 0, nI 0, nI 0, .slice none 0 0, .slice none 0 0, .slice none 0 0] [nI 0, nI 0, nI 0, .slice none 0 0, .slice none 0 0, .slice none 0 0] (Lib.hid (Own.atP O9.out _ (by (repeat (first | exact Plus.refl _ | apply Plus.plus | apply Plus.alloc | apply Plus.drew))))).out rfl rfl rfl (by simp) rfl (by kernel_rfl) rfl ?_; intro wz OZ; replace OZ := Lib.hid OZ))
    exact bodyPost_ret (v := .tuple #[.agg #[nI 0, nI 0, nI 0, .slice none 0 0, .slice none 0 0, .slice none 0 0], nI 2]) (results_O2 Tryz.results13 _ 4 OZ.out rfl rfl Tryz.underlying39 rfl (by kernel_rfl)) rfl ⟨a0, rfl, msgA_none (OZ.out.drop.drop.drop.drop.drop)⟩
  | true =>
    rw [hok, if_pos rfl] at hG'
    subst hG'
    rw [hok] at kQ
    simp only [if_true] at kQ
    clear hok
    go_wp2_with (first
      | (go_at_call 47; (with_reducible refine kD.out.mono ?_); rintro e w' ⟨rfl, d1, rfl⟩)
      | (go_at_call 26; (with_reducible refine (kQ.out _ (by (repeat (first | exact Plus.refl _ | apply Plus.plus | apply Plus.alloc | apply Plus.drew)))).mono ?_); rintro e w' ⟨rfl, d2, rfl⟩)
      | (refine wpList_load_O 39 _ rfl rfl 3 0 [nI k, nI t, nI 0, .slice Al xs.length cl, .slice none 0 0, .slice none 0 0] (Own.atP O9.out _ (by (repeat (first | exact Plus.refl _ | apply Plus.plus | apply Plus.alloc | apply Plus.drew)))) rfl rfl (by simp) rfl Tryz.underlying39 rfl (by kernel_rfl) ?_)
      | (refine wpList_store_O 39 _ _ rfl rfl rfl 4 0 [nI k, nI t, nI 0, .slice Al xs.length cl, .slice none 0 0, .slice none 0 0] [nI k, nI t, nI 0, .slice Al xs.length cl, .slice none 0 0, .slice none 0 0] (Lib.hid (Own.atP O9.out _ (by (repeat (first | exact Plus.refl _ | apply Plus.plus | apply Plus.alloc | apply Plus.drew))))).out rfl rfl rfl (by simp) rfl (by kernel_rfl) rfl ?_; intro wz OZ; replace OZ := Lib.hid OZ))
    exact bodyPost_ret (v := .tuple #[.agg #[nI k, nI t, nI 0, .slice Al xs.length cl, .slice none 0 0, .slice none 0 0], nI 0]) (results_O2 Tryz.results13 _ 4 OZ.out rfl rfl Tryz.underlying39 rfl (by kernel_rfl)) rfl ⟨⟨Al, none, none, cl, 0, 0⟩, rfl, Own.pull 2 (Own.nilSl (Own.nilSl (OZ.out.rot1.drop.rot1.drop.rot1.drop.rot1.drop) 3) 11) rfl⟩
theorem decCore_2 {W wx : World} {l : List Asn} (O : Own W wx l) (s : ByteArray) (hs : s.size ≤ 281474976710656) (k t : Int) (s1 s2 : ByteArray) (e1 e2 : Bool) (h1 : Octs.rInt s false = (k, s1, e1)) (h2 : Octs.rInt s1 e1 = (t, s2, e2)) (okb : Bool) (kO : ∀ w, Calls Tryz.prog 27 #[nI k] w fun e w' => e = .returned (.tuple #[fldV true false false false false, .bool okb]) ∧ w.Plus w') : Calls Tryz.prog 13 #[.string s] wx (DecPost W l (finM (⟨k, t, 0, [], [], []⟩ : MsgR) s2 e2)) := by
  have v0 : inv (s, false) := by intro h; cases h
  have z1 := Octs.rInt_size s false
  have v1 := rInt_inv2 s false v0
  rw [h1] at z1 v1
  simp only at z1 v1
  have kF := Lib.hid (fun w l (O : Own W w l) => Octs.of_O (s := s) O hs)
  have k1 := fun w N l (O : Own W w (Octs.rdA N s false :: l)) => Octs.rdInt_O O hs
  rw [h1] at k1
  simp only at k1
  replace k1 := Lib.hid k1
  have z2 := Octs.rInt_size s1 e1
  have v2 := rInt_inv2 s1 e1 v1
  rw [h2] at z2 v2
  simp only at z2 v2
  have k2 := fun w N l (O : Own W w (Octs.rdA N s1 e1 :: l)) => Octs.rdInt_O O (by omega)
  rw [h2] at k2
  simp only at k2
  replace k2 := Lib.hid k2
  have kK := Lib.hid (fun (w : World) => (show Calls Tryz.prog 26 #[.agg #[nI k, nI t, nI 0, .slice none 0 0, .slice none 0 0, .slice none 0 0]] w fun e w' => e = .returned (nI (if okM (⟨k, t, 0, [], [], []⟩ : MsgR) then 0 else 1)) ∧ w.Plus w' from checkMsg_any (⟨k, t, 0, [], [], []⟩ : MsgR) a0 w ⟨RowsAt.zero _ _ _ _, RowsAt.zero _ _ _ _, RowsAt.zero _ _ _ _⟩))
  obtain ⟨D, hD⟩ : ∃ D, D = finM (⟨k, t, 0, [], [], []⟩ : MsgR) s2 e2 := ⟨_, rfl⟩
  rw [← hD]
  have hF : Octs.rDone s2 e2 = 2 → D = (msZ, 2) := fun p => by rw [hD]; exact finM_bad _ _ _ p
  have hG : Octs.rDone s2 e2 = 0 → D = if okM (⟨k, t, 0, [], [], []⟩ : MsgR) then ((⟨k, t, 0, [], [], []⟩ : MsgR), 0) else (msZ, 2) := fun p => by rw [hD]; exact finM_good _ _ _ p
  clear hD
  have O0 := O.newCells [nI 0, nI 0, nI 0, .slice none 0 0, .slice none 0 0, .slice none 0 0] 39
  obtain ⟨w0, hw0⟩ : ∃ q, wx.alloc (.cells #[nI 0, nI 0, nI 0, .slice none 0 0, .slice none 0 0, .slice none 0 0] 39) = q := ⟨_, rfl⟩
  rw [hw0] at O0
  replace O0 := Lib.hid O0
  replace hw0 := Lib.hid hw0
  clear O h1 h2
  replace kO := Lib.hid kO
  go_enter Tryz.func13, Tryz.ntmps13
  go_upto_region 1 with fail
  rw [hw0.out]
  clear hw0
  generalize wx.heap.size = R0 at *
  go_upto_region 2 with (go_at_call 39; (with_reducible refine (kF.out _ _ O0.out).mono ?_); rintro e w1 ⟨N, rfl, O1⟩; replace O1 := Lib.hid O1)
  have j1 := Lib.hid (k1.out _ _ _ O1.out)
  clear kF k1 O1 O0
  go_upto_region 3 with (go_at_call 40; (with_reducible refine j1.out.mono ?_); clear j1; rintro e w2 ⟨rfl, O2⟩)
  have O3 := (O2.newCells [nI k, nI 0, nI 0, .slice none 0 0, .slice none 0 0, .slice none 0 0] 39).rot1
  obtain ⟨w3, hw3⟩ : ∃ q, w2.alloc (.cells #[nI k, nI 0, nI 0, .slice none 0 0, .slice none 0 0, .slice none 0 0] 39) = q := ⟨_, rfl⟩
  rw [hw3] at O3
  rw [hw3]
  clear hw3 O2
  generalize w2.heap.size = C at *
  have x0 := (O3.cells 1 rfl).2.1 0 (by simp)
  simp only [List.getElem?_cons_zero] at x0
  haveI : InW C w3 := ⟨(O3.cells 1 rfl).1⟩
  replace O3 := Lib.hid O3
  go_upto_region 4 with (go_at_call 27; (with_reducible refine (kO.out _).mono ?_); rintro e w' ⟨rfl, e4, rfl⟩)
  clear kO x0
  have O5 := ((O3.out.plus e4).newCells [.bool true, .bool false, .bool false, .bool false, .bool false] 67).rot1
  obtain ⟨w5, hw5⟩ : ∃ q, (w3.plus e4).alloc (.cells #[.bool true, .bool false, .bool false, .bool false, .bool false] 67) = q := ⟨_, rfl⟩
  rw [hw5] at O5
  first | rw [hw5] | skip
  clear hw5 O3
  rw [World.size_plus_eq] at O5
  generalize w3.heap.size + e4.objs.size = F at *
  obtain ⟨lQ, qQ, fQ⟩ := Own.cells 1 O5 rfl
  have y0 := qQ 0 (by simp)
  have y1 := qQ 1 (by simp)
  have y2 := qQ 2 (by simp)
  have y3 := qQ 3 (by simp)
  have y4 := qQ 4 (by simp)
  simp only [List.getElem?_cons_succ, List.getElem?_cons_zero] at y0 y1 y2 y3 y4
  haveI : InW F w5 := ⟨lQ⟩
  clear qQ lQ fQ
  replace O5 := Lib.hid O5
  go_upto_region 5 with fail
  clear y0 y1 y2 y3 y4
  have j2 := Lib.hid (k2.out _ _ _ O5.out)
  clear k2
  go_upto_region 6 with (first
    | (go_at_call 40; (with_reducible refine j2.out.mono ?_); clear j2; rintro e w6 ⟨rfl, O6⟩; replace O6 := Lib.hid O6)
    | (refine wpList_store_O 3 _ _ rfl rfl rfl 2 1 [nI t] [nI k, nI t, nI 0, .slice none 0 0, .slice none 0 0, .slice none 0 0] O6.out rfl rfl rfl (by simp) rfl (by kernel_rfl) rfl ?_; intro w7 O7; replace O7 := Lib.hid O7))
  clear O5 O6
  obtain ⟨lQ, qQ, fQ⟩ := Own.cells 1 O7.out rfl
  have y0 := qQ 0 (by simp)
  have y1 := qQ 1 (by simp)
  have y2 := qQ 2 (by simp)
  have y3 := qQ 3 (by simp)
  have y4 := qQ 4 (by simp)
  simp only [List.getElem?_cons_succ, List.getElem?_cons_zero] at y0 y1 y2 y3 y4
  haveI : InW F w7 := ⟨lQ⟩
  clear qQ lQ fQ
  go_upto_region 14 with fail
  clear y0 y1 y2 y3 y4
  have kD := Lib.hid (Octs.rdDone_O O7.out)
  have kQ := Lib.hid (fun w (p : w7.Plus w) => kK.out w)
  clear kK
  rcases rDone_02 s2 e2 with hd | hd
  case inr =>
    obtain rfl := hF hd
    rw [hd] at kD
    clear hF hG hd kQ
    go_wp2_with (first
      | (go_at_call 47; (with_reducible refine kD.out.mono ?_); rintro e w' ⟨rfl, d1, rfl⟩)
      | (refine wpList_store_O 39 _ _ rfl rfl rfl 3 0 [nI 0, nI 0, nI 0, .slice none 0 0, .slice none 0 0, .slice none 0 0] [nI 0, nI 0, nI 0, .slice none 0 0, .slice none 0 0, .slice none 0 0] (Lib.hid (Own.atP O7.out _ (by (repeat (first | exact Plus.refl _ | apply Plus.plus | apply Plus.alloc | apply Plus.drew))))).out rfl rfl rfl (by simp) rfl (by kernel_rfl) rfl ?_; intro wz OZ; replace OZ := Lib.hid OZ))
    exact bodyPost_ret (v := .tuple #[.agg #[nI 0, nI 0, nI 0, .slice none 0 0, .slice none 0 0, .slice none 0 0], nI 2]) (results_O2 Tryz.results13 _ 3 OZ.out rfl rfl Tryz.underlying39 rfl (by kernel_rfl)) rfl ⟨a0, rfl, msgA_none (OZ.out.drop.drop.drop.drop)⟩
  have hG' := hG hd
  rw [hd] at kD
  clear hF hG hd
  cases hok : okM (⟨k, t, 0, [], [], []⟩ : MsgR) with
  | false =>
    rw [hok, if_neg (by simp)] at hG'
    subst hG'
    rw [hok] at kQ
    simp only [Bool.false_eq_true, if_false] at kQ
    clear hok
    go_wp2_with (first
      | (go_at_call 47; (with_reducible refine kD.out.mono ?_); rintro e w' ⟨rfl, d1, rfl⟩)
      | (go_at_call 26; (with_reducible refine (kQ.out _ (by (repeat (first | exact Plus.refl _ | apply Plus.plus | apply Plus.alloc | apply Plus.drew)))).mono ?_); rintro e w' ⟨rfl, d2, rfl⟩)
      | (refine wpList_load_O 39 _ rfl rfl 2 0 [nI k, nI t, nI 0, .slice none 0 0, .slice none 0 0, .slice none 0 0] (Own.atP O7.out _ (by (repeat (first | exact Plus.refl _ | apply Plus.plus | apply Plus.alloc | apply Plus.drew)))) rfl rfl (by simp) rfl Tryz.underlying39 rfl (by kernel_rfl) ?_)
      | (refine wpList_store_O 39 _ _ rfl rfl rfl 3 0 [nI 0, nI 0, nI 0, .slice none 0 0, .slice none 0 0, .slice none 0 0] [nI 0, nI 0, nI 0, .slice none 0 0, .slice none 0 0, .slice none 0 0] (Lib.hid (Own.atP O7.out _ (by (repeat (first | exact Plus.refl _ | apply Plus.plus | apply Plus.alloc | apply Plus.drew))))).out rfl rfl rfl (by simp) rfl (by kernel_rfl) rfl ?_; intro wz OZ; replace OZ := Lib.hid OZ))
    exact bodyPost_ret (v := .tuple #[.agg #[nI 0, nI 0, nI 0, .slice none 0 0, .slice none 0 0, .slice none 0 0], nI 2]) (results_O2 Tryz.results13 _ 3 OZ.out rfl rfl Tryz.underlying39 rfl (by kernel_rfl)) rfl ⟨a0, rfl, msgA_none (OZ.out.drop.drop.drop.drop)⟩
  | true =>
    rw [hok, if_pos rfl] at hG'
    subst hG'
    rw [hok] at kQ
    simp only [if_true] at kQ
    clear hok
    go_wp2_with (first
      | (go_at_call 47; (with_reducible refine kD.out.mono ?_); rintro e w' ⟨rfl, d1, rfl⟩)
      | (go_at_call 26; (with_reducible refine (kQ.out _ (by (repeat (first | exact Plus.refl _ | apply Plus.plus | apply Plus.alloc | apply Plus.drew)))).mono ?_); rintro e w' ⟨rfl, d2, rfl⟩)
      | (refine wpList_load_O 39 _ rfl rfl 2 0 [nI k, nI t, nI 0, .slice none 0 0, .slice none 0 0, .slice none 0 0] (Own.atP O7.out _ (by (repeat (first | exact Plus.refl _ | apply Plus.plus | apply Plus.alloc | apply Plus.drew)))) rfl rfl (by simp) rfl Tryz.underlying39 rfl (by kernel_rfl) ?_)
      | (refine wpList_store_O 39 _ _ rfl rfl rfl 3 0 [nI k, nI t, nI 0, .slice none 0 0, .slice none 0 0, .slice none 0 0] [nI k, nI t, nI 0, .slice none 0 0, .slice none 0 0, .slice none 0 0] (Lib.hid (Own.atP O7.out _ (by (repeat (first | exact Plus.refl _ | apply Plus.plus | apply Plus.alloc | apply Plus.drew))))).out rfl rfl rfl (by simp) rfl (by kernel_rfl) rfl ?_; intro wz OZ; replace OZ := Lib.hid OZ))
    exact bodyPost_ret (v := .tuple #[.agg #[nI k, nI t, nI 0, .slice none 0 0, .slice none 0 0, .slice none 0 0], nI 0]) (results_O2 Tryz.results13 _ 3 OZ.out rfl rfl Tryz.underlying39 rfl (by kernel_rfl)) rfl ⟨a0, rfl, msgA_none (OZ.out.drop.drop.drop.drop)⟩
theorem decCore_0 {W wx : World} {l : List Asn} (O : Own W wx l) (s : ByteArray) (hs : s.size ≤ 281474976710656) (k : Int) (s1 : ByteArray) (e1 : Bool) (h1 : Octs.rInt s false = (k, s1, e1)) (okb : Bool) (kO : ∀ w, Calls Tryz.prog 27 #[nI k] w fun e w' => e = .returned (.tuple #[fldV false false false false false, .bool okb]) ∧ w.Plus w') : Calls Tryz.prog 13 #[.string s] wx (DecPost W l (finM (⟨k, 0, 0, [], [], []⟩ : MsgR) s1 e1)) := by
  have v0 : inv (s, false) := by intro h; cases h
  have z1 := Octs.rInt_size s false
  have v1 := rInt_inv2 s false v0
  rw [h1] at z1 v1
  simp only at z1 v1
  have kF := Lib.hid (fun w l (O : Own W w l) => Octs.of_O (s := s) O hs)
  have k1 := fun w N l (O : Own W w (Octs.rdA N s false :: l)) => Octs.rdInt_O O hs
  rw [h1] at k1
  simp only at k1
  replace k1 := Lib.hid k1
  have kK := Lib.hid (fun (w : World) => (show Calls Tryz.prog 26 #[.agg #[nI k, nI 0, nI 0, .slice none 0 0, .slice none 0 0, .slice none 0 0]] w fun e w' => e = .returned (nI (if okM (⟨k, 0, 0, [], [], []⟩ : MsgR) then 0 else 1)) ∧ w.Plus w' from checkMsg_any (⟨k, 0, 0, [], [], []⟩ : MsgR) a0 w ⟨RowsAt.zero _ _ _ _, RowsAt.zero _ _ _ _, RowsAt.zero _ _ _ _⟩))
  obtain ⟨D, hD⟩ : ∃ D, D = finM (⟨k, 0, 0, [], [], []⟩ : MsgR) s1 e1 := ⟨_, rfl⟩
  rw [← hD]
  have hF : Octs.rDone s1 e1 = 2 → D = (msZ, 2) := fun p => by rw [hD]; exact finM_bad _ _ _ p
  have hG : Octs.rDone s1 e1 = 0 → D = if okM (⟨k, 0, 0, [], [], []⟩ : MsgR) then ((⟨k, 0, 0, [], [], []⟩ : MsgR), 0) else (msZ, 2) := fun p => by rw [hD]; exact finM_good _ _ _ p
  clear hD
  have O0 := O.newCells [nI 0, nI 0, nI 0, .slice none 0 0, .slice none 0 0, .slice none 0 0] 39
  obtain ⟨w0, hw0⟩ : ∃ q, wx.alloc (.cells #[nI 0, nI 0, nI 0, .slice none 0 0, .slice none 0 0, .slice none 0 0] 39) = q := ⟨_, rfl⟩
  rw [hw0] at O0
  replace O0 := Lib.hid O0
  replace hw0 := Lib.hid hw0
  clear O h1
  replace kO := Lib.hid kO
  go_enter Tryz.func13, Tryz.ntmps13
  go_upto_region 1 with fail
  rw [hw0.out]
  clear hw0
  generalize wx.heap.size = R0 at *
  go_upto_region 2 with (go_at_call 39; (with_reducible refine (kF.out _ _ O0.out).mono ?_); rintro e w1 ⟨N, rfl, O1⟩; replace O1 := Lib.hid O1)
  have j1 := Lib.hid (k1.out _ _ _ O1.out)
  clear kF k1 O1 O0
  go_upto_region 3 with (go_at_call 40; (with_reducible refine j1.out.mono ?_); clear j1; rintro e w2 ⟨rfl, O2⟩)
  have O3 := (O2.newCells [nI k, nI 0, nI 0, .slice none 0 0, .slice none 0 0, .slice none 0 0] 39).rot1
  obtain ⟨w3, hw3⟩ : ∃ q, w2.alloc (.cells #[nI k, nI 0, nI 0, .slice none 0 0, .slice none 0 0, .slice none 0 0] 39) = q := ⟨_, rfl⟩
  rw [hw3] at O3
  rw [hw3]
  clear hw3 O2
  generalize w2.heap.size = C at *
  have x0 := (O3.cells 1 rfl).2.1 0 (by simp)
  simp only [List.getElem?_cons_zero] at x0
  haveI : InW C w3 := ⟨(O3.cells 1 rfl).1⟩
  replace O3 := Lib.hid O3
  go_upto_region 4 with (go_at_call 27; (with_reducible refine (kO.out _).mono ?_); rintro e w' ⟨rfl, e4, rfl⟩)
  clear kO x0
  have O5 := ((O3.out.plus e4).newCells [.bool false, .bool false, .bool false, .bool false, .bool false] 67).rot1
  obtain ⟨w5, hw5⟩ : ∃ q, (w3.plus e4).alloc (.cells #[.bool false, .bool false, .bool false, .bool false, .bool false] 67) = q := ⟨_, rfl⟩
  rw [hw5] at O5
  first | rw [hw5] | skip
  clear hw5 O3
  rw [World.size_plus_eq] at O5
  generalize w3.heap.size + e4.objs.size = F at *
  obtain ⟨lQ, qQ, fQ⟩ := Own.cells 1 O5 rfl
  have y0 := qQ 0 (by simp)
  have y1 := qQ 1 (by simp)
  have y2 := qQ 2 (by simp)
  have y3 := qQ 3 (by simp)
  have y4 := qQ 4 (by simp)
  simp only [List.getElem?_cons_succ, List.getElem?_cons_zero] at y0 y1 y2 y3 y4
  haveI : InW F w5 := ⟨lQ⟩
  clear qQ lQ fQ
  replace O5 := Lib.hid O5
  go_upto_region 14 with fail
  clear y0 y1 y2 y3 y4
  have kD := Lib.hid (Octs.rdDone_O O5.out)
  have kQ := Lib.hid (fun w (p : w5.Plus w) => kK.out w)
  clear kK
  rcases rDone_02 s1 e1 with hd | hd
  case inr =>
    obtain rfl := hF hd
    rw [hd] at kD
    clear hF hG hd kQ
    go_wp2_with (first
      | (go_at_call 47; (with_reducible refine kD.out.mono ?_); rintro e w' ⟨rfl, d1, rfl⟩)
      | (refine wpList_store_O 39 _ _ rfl rfl rfl 3 0 [nI 0, nI 0, nI 0, .slice none 0 0, .slice none 0 0, .slice none 0 0] [nI 0, nI 0, nI 0, .slice none 0 0, .slice none 0 0, .slice none 0 0] (Lib.hid (Own.atP O5.out _ (by (repeat (first | exact Plus.refl _ | apply Plus.plus | apply Plus.alloc | apply Plus.drew))))).out rfl rfl rfl (by simp) rfl (by kernel_rfl) rfl ?_; intro wz OZ; replace OZ := Lib.hid OZ))
    exact bodyPost_ret (v := .tuple #[.agg #[nI 0, nI 0, nI 0, .slice none 0 0, .slice none 0 0, .slice none 0 0], nI 2]) (results_O2 Tryz.results13 _ 3 OZ.out rfl rfl Tryz.underlying39 rfl (by kernel_rfl)) rfl ⟨a0, rfl, msgA_none (OZ.out.drop.drop.drop.drop)⟩
  have hG' := hG hd
  rw [hd] at kD
  clear hF hG hd
  cases hok : okM (⟨k, 0, 0, [], [], []⟩ : MsgR) with
  | false =>
    rw [hok, if_neg (by simp)] at hG'
    subst hG'
    rw [hok] at kQ
    simp only [Bool.false_eq_true, if_false] at kQ
    clear hok
    go_wp2_with (first
      | (go_at_call 47; (with_reducible refine kD.out.mono ?_); rintro e w' ⟨rfl, d1, rfl⟩)
      | (go_at_call 26; (with_reducible refine (kQ.out _ (by (repeat (first | exact Plus.refl _ | apply Plus.plus | apply Plus.alloc | apply Plus.drew)))).mono ?_); rintro e w' ⟨rfl, d2, rfl⟩)
      | (refine wpList_load_O 39 _ rfl rfl 2 0 [nI k, nI 0, nI 0, .slice none 0 0, .slice none 0 0, .slice none 0 0] (Own.atP O5.out _ (by (repeat (first | exact Plus.refl _ | apply Plus.plus | apply Plus.alloc | apply Plus.drew)))) rfl rfl (by simp) rfl Tryz.underlying39 rfl (by kernel_rfl) ?_)
      | (refine wpList_store_O 39 _ _ rfl rfl rfl 3 0 [nI 0, nI 0, nI 0, .slice none 0 0, .slice none 0 0, .slice none 0 0] [nI 0, nI 0, nI 0, .slice none 0 0, .slice none 0 0, .slice none 0 0] (Lib.hid (Own.atP O5.out _ (by (repeat (first | exact Plus.refl _ | apply Plus.plus | apply Plus.alloc | apply Plus.drew))))).out rfl rfl rfl (by simp) rfl (by kernel_rfl) rfl ?_; intro wz OZ; replace OZ := Lib.hid OZ))
    exact bodyPost_ret (v := .tuple #[.agg #[nI 0, nI 0, nI 0, .slice none 0 0, .slice none 0 0, .slice none 0 0], nI 2]) (results_O2 Tryz.results13 _ 3 OZ.out rfl rfl Tryz.underlying39 rfl (by kernel_rfl)) rfl ⟨a0, rfl, msgA_none (OZ.out.drop.drop.drop.drop)⟩
  | true =>
    rw [hok, if_pos rfl] at hG'
    subst hG'
    rw [hok] at kQ
    simp only [if_true] at kQ
    clear hok
    go_wp2_with (first
      | (go_at_call 47; (with_reducible refine kD.out.mono ?_); rintro e w' ⟨rfl, d1, rfl⟩)
      | (go_at_call 26; (with_reducible refine (kQ.out _ (by (repeat (first | exact Plus.refl _ | apply Plus.plus | apply Plus.alloc | apply Plus.drew)))).mono ?_); rintro e w' ⟨rfl, d2, rfl⟩)
      | (refine wpList_load_O 39 _ rfl rfl 2 0 [nI k, nI 0, nI 0, .slice none 0 0, .slice none 0 0, .slice none 0 0] (Own.atP O5.out _ (by (repeat (first | exact Plus.refl _ | apply Plus.plus | apply Plus.alloc | apply Plus.drew)))) rfl rfl (by simp) rfl Tryz.underlying39 rfl (by kernel_rfl) ?_)
      | (refine wpList_store_O 39 _ _ rfl rfl rfl 3 0 [nI k, nI 0, nI 0, .slice none 0 0, .slice none 0 0, .slice none 0 0] [nI k, nI 0, nI 0, .slice none 0 0, .slice none 0 0, .slice none 0 0] (Lib.hid (Own.atP O5.out _ (by (repeat (first | exact Plus.refl _ | apply Plus.plus | apply Plus.alloc | apply Plus.drew))))).out rfl rfl rfl (by simp) rfl (by kernel_rfl) rfl ?_; intro wz OZ; replace OZ := Lib.hid OZ))
    exact bodyPost_ret (v := .tuple #[.agg #[nI k, nI 0, nI 0, .slice none 0 0, .slice none 0 0, .slice none 0 0], nI 0]) (results_O2 Tryz.results13 _ 3 OZ.out rfl rfl Tryz.underlying39 rfl (by kernel_rfl)) rfl ⟨a0, rfl, msgA_none (OZ.out.drop.drop.drop.drop)⟩
end Go.Proofs.YtpdlgflbcgemnaaGreatDoor
-- CodD2
/- codec: Decode by shapes: walks. -/
set_option linter.unusedSimpArgs false
set_option linter.unusedVariables false
namespace Go.Proofs.YtpdlgflbcgemnaaGreatDoor
open Go.RowKit Octs
set_option maxHeartbeats 2000000
set_option maxRecDepth 100000
theorem decCore_4 {W wx : World} {l : List Asn} (O : Own W wx l) (s : ByteArray) (hs : s.size ≤ 281474976710656) (k t : Int) (xs : List IdR) (s1 s2 s3 : ByteArray) (e1 e2 e3 : Bool) (h1 : Octs.rInt s false = (k, s1, e1)) (h2 : Octs.rInt s1 e1 = (t, s2, e2)) (h3 : readL tkI s2 e2 1024 = (xs, s3, e3)) (okb : Bool) (kO : ∀ w, Calls Tryz.prog 27 #[nI k] w fun e w' => e = .returned (.tuple #[fldV true false false false true, .bool okb]) ∧ w.Plus w') : Calls Tryz.prog 13 #[.string s] wx (DecPost W l (finM (⟨k, t, 0, [], [], xs⟩ : MsgR) s3 e3)) := by
  have v0 : inv (s, false) := by intro h; cases h
  have z1 := Octs.rInt_size s false
  have v1 := rInt_inv2 s false v0
  rw [h1] at z1 v1
  simp only at z1 v1
  have kF := Lib.hid (fun w l (O : Own W w l) => Octs.of_O (s := s) O hs)
  have k1 := fun w N l (O : Own W w (Octs.rdA N s false :: l)) => Octs.rdInt_O O hs
  rw [h1] at k1
  simp only at k1
  replace k1 := Lib.hid k1
  have z2 := Octs.rInt_size s1 e1
  have v2 := rInt_inv2 s1 e1 v1
  rw [h2] at z2 v2
  simp only at z2 v2
  have k2 := fun w N l (O : Own W w (Octs.rdA N s1 e1 :: l)) => Octs.rdInt_O O (by omega)
  rw [h2] at k2
  simp only at k2
  replace k2 := Lib.hid k2
  have k3 := fun w N l (O : Own W w (Octs.rdA N s2 e2 :: l)) => takeListI_O O (by omega) v2 1024 (by decide)
  rw [h3] at k3
  simp only at k3
  replace k3 := Lib.hid k3
  have kK := Lib.hid (fun (w : World) (Al : Option Addr) (cl : Nat) (h : RowsAt w Al 3 xs.length (rowFI xs)) => (show Calls Tryz.prog 26 #[.agg #[nI k, nI t, nI 0, .slice none 0 0, .slice none 0 0, .slice Al xs.length cl]] w fun e w' => e = .returned (nI (if okM (⟨k, t, 0, [], [], xs⟩ : MsgR) then 0 else 1)) ∧ w.Plus w' from checkMsg_any (⟨k, t, 0, [], [], xs⟩ : MsgR) ⟨none, none, Al, 0, 0, cl⟩ w ⟨RowsAt.zero _ _ _ _, RowsAt.zero _ _ _ _, h⟩))
  obtain ⟨D, hD⟩ : ∃ D, D = finM (⟨k, t, 0, [], [], xs⟩ : MsgR) s3 e3 := ⟨_, rfl⟩
  rw [← hD]
  have hF : Octs.rDone s3 e3 = 2 → D = (msZ, 2) := fun p => by rw [hD]; exact finM_bad _ _ _ p
  have hG : Octs.rDone s3 e3 = 0 → D = if okM (⟨k, t, 0, [], [], xs⟩ : MsgR) then ((⟨k, t, 0, [], [], xs⟩ : MsgR), 0) else (msZ, 2) := fun p => by rw [hD]; exact finM_good _ _ _ p
  clear hD
  have O0 := O.newCells [nI 0, nI 0, nI 0, .slice none 0 0, .slice none 0 0, .slice none 0 0] 39
  obtain ⟨w0, hw0⟩ : ∃ q, wx.alloc (.cells #[nI 0, nI 0, nI 0, .slice none 0 0, .slice none 0 0, .slice none 0 0] 39) = q := ⟨_, rfl⟩
  rw [hw0] at O0
  replace O0 := Lib.hid O0
  replace hw0 := Lib.hid hw0
  clear O h1 h2 h3
  replace kO := Lib.hid kO
  go_enter Tryz.func13, Tryz.ntmps13
  go_upto_region 1 with fail
  rw [hw0.out]
  clear hw0
  generalize wx.heap.size = R0 at *
  go_upto_region 2 with (go_at_call 39; (with_reducible refine (kF.out _ _ O0.out).mono ?_); rintro e w1 ⟨N, rfl, O1⟩; replace O1 := Lib.hid O1)
  have j1 := Lib.hid (k1.out _ _ _ O1.out)
  clear kF k1 O1 O0
  go_upto_region 3 with (go_at_call 40; (with_reducible refine j1.out.mono ?_); clear j1; rintro e w2 ⟨rfl, O2⟩)
  have O3 := (O2.newCells [nI k, nI 0, nI 0, .slice none 0 0, .slice none 0 0, .slice none 0 0] 39).rot1
  obtain ⟨w3, hw3⟩ : ∃ q, w2.alloc (.cells #[nI k, nI 0, nI 0, .slice none 0 0, .slice none 0 0, .slice none 0 0] 39) = q := ⟨_, rfl⟩
  rw [hw3] at O3
  rw [hw3]
  clear hw3 O2
  generalize w2.heap.size = C at *
  have x0 := (O3.cells 1 rfl).2.1 0 (by simp)
  simp only [List.getElem?_cons_zero] at x0
  haveI : InW C w3 := ⟨(O3.cells 1 rfl).1⟩
  replace O3 := Lib.hid O3
  go_upto_region 4 with (go_at_call 27; (with_reducible refine (kO.out _).mono ?_); rintro e w' ⟨rfl, e4, rfl⟩)
  clear kO x0
  have O5 := ((O3.out.plus e4).newCells [.bool true, .bool false, .bool false, .bool false, .bool true] 67).rot1
  obtain ⟨w5, hw5⟩ : ∃ q, (w3.plus e4).alloc (.cells #[.bool true, .bool false, .bool false, .bool false, .bool true] 67) = q := ⟨_, rfl⟩
  rw [hw5] at O5
  first | rw [hw5] | skip
  clear hw5 O3
  rw [World.size_plus_eq] at O5
  generalize w3.heap.size + e4.objs.size = F at *
  obtain ⟨lQ, qQ, fQ⟩ := Own.cells 1 O5 rfl
  have y0 := qQ 0 (by simp)
  have y1 := qQ 1 (by simp)
  have y2 := qQ 2 (by simp)
  have y3 := qQ 3 (by simp)
  have y4 := qQ 4 (by simp)
  simp only [List.getElem?_cons_succ, List.getElem?_cons_zero] at y0 y1 y2 y3 y4
  haveI : InW F w5 := ⟨lQ⟩
  clear qQ lQ fQ
  replace O5 := Lib.hid O5
  go_upto_region 5 with fail
  clear y0 y1 y2 y3 y4
  have j2 := Lib.hid (k2.out _ _ _ O5.out)
  clear k2
  go_upto_region 6 with (first
    | (go_at_call 40; (with_reducible refine j2.out.mono ?_); clear j2; rintro e w6 ⟨rfl, O6⟩; replace O6 := Lib.hid O6)
    | (refine wpList_store_O 3 _ _ rfl rfl rfl 2 1 [nI t] [nI k, nI t, nI 0, .slice none 0 0, .slice none 0 0, .slice none 0 0] O6.out rfl rfl rfl (by simp) rfl (by kernel_rfl) rfl ?_; intro w7 O7; replace O7 := Lib.hid O7))
  clear O5 O6
  obtain ⟨lQ, qQ, fQ⟩ := Own.cells 1 O7.out rfl
  have y0 := qQ 0 (by simp)
  have y1 := qQ 1 (by simp)
  have y2 := qQ 2 (by simp)
  have y3 := qQ 3 (by simp)
  have y4 := qQ 4 (by simp)
  simp only [List.getElem?_cons_succ, List.getElem?_cons_zero] at y0 y1 y2 y3 y4
  haveI : InW F w7 := ⟨lQ⟩
  clear qQ lQ fQ
  go_upto_region 13 with fail
  clear y0 y1 y2 y3 y4
  have j3 := Lib.hid (k3.out _ _ _ O7.out)
  clear k3
  go_upto_region 14 with (first
    | (go_at_call 45; (with_reducible refine j3.out.mono ?_); clear j3; rintro e w8 ⟨Al, cl, rfl, O8⟩; replace O8 := Lib.hid O8)
    | (refine wpList_store_O 37 _ _ rfl rfl rfl 3 5 [.slice Al xs.length cl] [nI k, nI t, nI 0, .slice none 0 0, .slice none 0 0, .slice Al xs.length cl] O8.out rfl rfl rfl (by simp) rfl (by kernel_rfl) rfl ?_; intro w9 O9; replace O9 := Lib.hid O9))
  clear O7 O8
  obtain ⟨lQ, qQ, fQ⟩ := Own.cells 2 O9.out rfl
  have y0 := qQ 0 (by simp)
  have y1 := qQ 1 (by simp)
  have y2 := qQ 2 (by simp)
  have y3 := qQ 3 (by simp)
  have y4 := qQ 4 (by simp)
  simp only [List.getElem?_cons_succ, List.getElem?_cons_zero] at y0 y1 y2 y3 y4
  haveI : InW F w9 := ⟨lQ⟩
  clear qQ lQ fQ
  clear y0 y1 y2 y3 y4
  have kD := Lib.hid (Octs.rdDone_O O9.out.rot1)
  have kQ := Lib.hid (fun w (p : w9.Plus w) => kK.out w Al cl (slRowsI rfl (Own.sl 0 (Own.atP O9.out w p) rfl)))
  clear kK
  rcases rDone_02 s3 e3 with hd | hd
  case inr =>
    obtain rfl := hF hd
    rw [hd] at kD
    clear hF hG hd kQ
    go_wp2_with (first
      | (go_at_call 47; (with_reducible refine kD.out.mono ?_); rintro e w' ⟨rfl, d1, rfl⟩)
      | (refine wpList_store_O 39 _ _ rfl rfl rfl 4 0 [nI 0, nI 0, nI 0, .slice none 0 0, .slice none 0 0, .slice none 0 0] [nI 0, nI 0, nI 0, .slice none 0 0, .slice none 0 0, .slice none 0 0] (Lib.hid (Own.atP O9.out _ (by (repeat (first | exact Plus.refl _ | apply Plus.plus | apply Plus.alloc | apply Plus.drew))))).out rfl rfl rfl (by simp) rfl (by kernel_rfl) rfl ?_; intro wz OZ; replace OZ := Lib.hid OZ))
    exact bodyPost_ret (v := .tuple #[.agg #[nI 0, nI 0, nI 0, .slice none 0 0, .slice none 0 0, .slice none 0 0], nI 2]) (results_O2 Tryz.results13 _ 4 OZ.out rfl rfl Tryz.underlying39 rfl (by kernel_rfl)) rfl ⟨a0, rfl, msgA_none (OZ.out.drop.drop.drop.drop.drop)⟩
  have hG' := hG hd
  rw [hd] at kD
  clear hF hG hd
  cases hok : okM (⟨k, t, 0, [], [], xs⟩ : MsgR) with
  | false =>
    rw [hok, if_neg (by simp)] at hG'
    subst hG'
    rw [hok] at kQ
    simp only [Bool.false_eq_true, if_false] at kQ
    clear hok
    go_wp2_with (first
      | (go_at_call 47; (with_reducible refine kD.out.mono ?_); rintro e w' ⟨rfl, d1, rfl⟩)
      | (go_at_call 26; (with_reducible refine (kQ.out _ (by (repeat (first | exact Plus.refl _ | apply Plus.plus | apply Plus.alloc | apply Plus.drew)))).mono ?_); rintro e w' ⟨rfl, d2, rfl⟩)
      | (refine wpList_load_O 39 _ rfl rfl 3 0 [nI k, nI t, nI 0, .slice none 0 0, .slice none 0 0, .slice Al xs.length cl] (Own.atP O9.out _ (by (repeat (first | exact Plus.refl _ | apply Plus.plus | apply Plus.alloc | apply Plus.drew)))) rfl rfl (by simp) rfl Tryz.underlying39 rfl (by kernel_rfl) ?_)
      | (refine wpList_store_O 39 _ _ rfl rfl rfl 4 0 [nI 0, nI 0, nI 0, .slice none 0 0, .slice none 0 0, .slice none 0 0] [nI 0, nI 0, nI 0, .slice none 0 0, .slice none 0 0, .slice none 0 0] (Lib.hid (Own.atP O9.out _ (by (repeat (first | exact Plus.refl _ | apply Plus.plus | apply Plus.alloc | apply Plus.drew))))).out rfl rfl rfl (by simp) rfl (by kernel_rfl) rfl ?_; intro wz OZ; replace OZ := Lib.hid OZ))
    exact bodyPost_ret (v := .tuple #[.agg #[nI 0, nI 0, nI 0, .slice none 0 0, .slice none 0 0, .slice none 0 0], nI 2]) (results_O2 Tryz.results13 _ 4 OZ.out rfl rfl Tryz.underlying39 rfl (by kernel_rfl)) rfl ⟨a0, rfl, msgA_none (OZ.out.drop.drop.drop.drop.drop)⟩
  | true =>
    rw [hok, if_pos rfl] at hG'
    subst hG'
    rw [hok] at kQ
    simp only [if_true] at kQ
    clear hok
    go_wp2_with (first
      | (go_at_call 47; (with_reducible refine kD.out.mono ?_); rintro e w' ⟨rfl, d1, rfl⟩)
      | (go_at_call 26; (with_reducible refine (kQ.out _ (by (repeat (first | exact Plus.refl _ | apply Plus.plus | apply Plus.alloc | apply Plus.drew)))).mono ?_); rintro e w' ⟨rfl, d2, rfl⟩)
      | (refine wpList_load_O 39 _ rfl rfl 3 0 [nI k, nI t, nI 0, .slice none 0 0, .slice none 0 0, .slice Al xs.length cl] (Own.atP O9.out _ (by (repeat (first | exact Plus.refl _ | apply Plus.plus | apply Plus.alloc | apply Plus.drew)))) rfl rfl (by simp) rfl Tryz.underlying39 rfl (by kernel_rfl) ?_)
      | (refine wpList_store_O 39 _ _ rfl rfl rfl 4 0 [nI k, nI t, nI 0, .slice none 0 0, .slice none 0 0, .slice Al xs.length cl] [nI k, nI t, nI 0, .slice none 0 0, .slice none 0 0, .slice Al xs.length cl] (Lib.hid (Own.atP O9.out _ (by (repeat (first | exact Plus.refl _ | apply Plus.plus | apply Plus.alloc | apply Plus.drew))))).out rfl rfl rfl (by simp) rfl (by kernel_rfl) rfl ?_; intro wz OZ; replace OZ := Lib.hid OZ))
    exact bodyPost_ret (v := .tuple #[.agg #[nI k, nI t, nI 0, .slice none 0 0, .slice none 0 0, .slice Al xs.length cl], nI 0]) (results_O2 Tryz.results13 _ 4 OZ.out rfl rfl Tryz.underlying39 rfl (by kernel_rfl)) rfl ⟨⟨none, none, Al, 0, 0, cl⟩, rfl, Own.nilSl (Own.nilSl (OZ.out.rot1.drop.rot1.drop.rot1.drop.rot1.drop) 11) 16⟩
theorem decCore_7 {W wx : World} {l : List Asn} (O : Own W wx l) (s : ByteArray) (hs : s.size ≤ 281474976710656) (k n : Int) (xs : List BdR) (s1 s2 s3 : ByteArray) (e1 e2 e3 : Bool) (h1 : Octs.rInt s false = (k, s1, e1)) (h2 : Octs.rInt s1 e1 = (n, s2, e2)) (h3 : readL tkB s2 e2 1024 = (xs, s3, e3)) (okb : Bool) (kO : ∀ w, Calls Tryz.prog 27 #[nI k] w fun e w' => e = .returned (.tuple #[fldV false true false true false, .bool okb]) ∧ w.Plus w') : Calls Tryz.prog 13 #[.string s] wx (DecPost W l (finM (⟨k, 0, n, [], xs, []⟩ : MsgR) s3 e3)) := by
  have v0 : inv (s, false) := by intro h; cases h
  have z1 := Octs.rInt_size s false
  have v1 := rInt_inv2 s false v0
  rw [h1] at z1 v1
  simp only at z1 v1
  have kF := Lib.hid (fun w l (O : Own W w l) => Octs.of_O (s := s) O hs)
  have k1 := fun w N l (O : Own W w (Octs.rdA N s false :: l)) => Octs.rdInt_O O hs
  rw [h1] at k1
  simp only at k1
  replace k1 := Lib.hid k1
  have z2 := Octs.rInt_size s1 e1
  have v2 := rInt_inv2 s1 e1 v1
  rw [h2] at z2 v2
  simp only at z2 v2
  have k2 := fun w N l (O : Own W w (Octs.rdA N s1 e1 :: l)) => Octs.rdInt_O O (by omega)
  rw [h2] at k2
  simp only at k2
  replace k2 := Lib.hid k2
  have k3 := fun w N l (O : Own W w (Octs.rdA N s2 e2 :: l)) => takeListB_O O (by omega) v2 1024 (by decide)
  rw [h3] at k3
  simp only at k3
  replace k3 := Lib.hid k3
  have kK := Lib.hid (fun (w : World) (Al : Option Addr) (cl : Nat) (h : RowsAt w Al 11 xs.length (rowFB xs)) => (show Calls Tryz.prog 26 #[.agg #[nI k, nI 0, nI n, .slice none 0 0, .slice Al xs.length cl, .slice none 0 0]] w fun e w' => e = .returned (nI (if okM (⟨k, 0, n, [], xs, []⟩ : MsgR) then 0 else 1)) ∧ w.Plus w' from checkMsg_any (⟨k, 0, n, [], xs, []⟩ : MsgR) ⟨none, Al, none, 0, cl, 0⟩ w ⟨RowsAt.zero _ _ _ _, h, RowsAt.zero _ _ _ _⟩))
  obtain ⟨D, hD⟩ : ∃ D, D = finM (⟨k, 0, n, [], xs, []⟩ : MsgR) s3 e3 := ⟨_, rfl⟩
  rw [← hD]
  have hF : Octs.rDone s3 e3 = 2 → D = (msZ, 2) := fun p => by rw [hD]; exact finM_bad _ _ _ p
  have hG : Octs.rDone s3 e3 = 0 → D = if okM (⟨k, 0, n, [], xs, []⟩ : MsgR) then ((⟨k, 0, n, [], xs, []⟩ : MsgR), 0) else (msZ, 2) := fun p => by rw [hD]; exact finM_good _ _ _ p
  clear hD
  have O0 := O.newCells [nI 0, nI 0, nI 0, .slice none 0 0, .slice none 0 0, .slice none 0 0] 39
  obtain ⟨w0, hw0⟩ : ∃ q, wx.alloc (.cells #[nI 0, nI 0, nI 0, .slice none 0 0, .slice none 0 0, .slice none 0 0] 39) = q := ⟨_, rfl⟩
  rw [hw0] at O0
  replace O0 := Lib.hid O0
  replace hw0 := Lib.hid hw0
  clear O h1 h2 h3
  replace kO := Lib.hid kO
  go_enter Tryz.func13, Tryz.ntmps13
  go_upto_region 1 with fail
  rw [hw0.out]
  clear hw0
  generalize wx.heap.size = R0 at *
  go_upto_region 2 with (go_at_call 39; (with_reducible refine (kF.out _ _ O0.out).mono ?_); rintro e w1 ⟨N, rfl, O1⟩; replace O1 := Lib.hid O1)
  have j1 := Lib.hid (k1.out _ _ _ O1.out)
  clear kF k1 O1 O0
  go_upto_region 3 with (go_at_call 40; (with_reducible refine j1.out.mono ?_); clear j1; rintro e w2 ⟨rfl, O2⟩)
  have O3 := (O2.newCells [nI k, nI 0, nI 0, .slice none 0 0, .slice none 0 0, .slice none 0 0] 39).rot1
  obtain ⟨w3, hw3⟩ : ∃ q, w2.alloc (.cells #[nI k, nI 0, nI 0, .slice none 0 0, .slice none 0 0, .slice none 0 0] 39) = q := ⟨_, rfl⟩
  rw [hw3] at O3
  rw [hw3]
  clear hw3 O2
  generalize w2.heap.size = C at *
  have x0 := (O3.cells 1 rfl).2.1 0 (by simp)
  simp only [List.getElem?_cons_zero] at x0
  haveI : InW C w3 := ⟨(O3.cells 1 rfl).1⟩
  replace O3 := Lib.hid O3
  go_upto_region 4 with (go_at_call 27; (with_reducible refine (kO.out _).mono ?_); rintro e w' ⟨rfl, e4, rfl⟩)
  clear kO x0
  have O5 := ((O3.out.plus e4).newCells [.bool false, .bool true, .bool false, .bool true, .bool false] 67).rot1
  obtain ⟨w5, hw5⟩ : ∃ q, (w3.plus e4).alloc (.cells #[.bool false, .bool true, .bool false, .bool true, .bool false] 67) = q := ⟨_, rfl⟩
  rw [hw5] at O5
  first | rw [hw5] | skip
  clear hw5 O3
  rw [World.size_plus_eq] at O5
  generalize w3.heap.size + e4.objs.size = F at *
  obtain ⟨lQ, qQ, fQ⟩ := Own.cells 1 O5 rfl
  have y0 := qQ 0 (by simp)
  have y1 := qQ 1 (by simp)
  have y2 := qQ 2 (by simp)
  have y3 := qQ 3 (by simp)
  have y4 := qQ 4 (by simp)
  simp only [List.getElem?_cons_succ, List.getElem?_cons_zero] at y0 y1 y2 y3 y4
  haveI : InW F w5 := ⟨lQ⟩
  clear qQ lQ fQ
  replace O5 := Lib.hid O5
  go_upto_region 7 with fail
  clear y0 y1 y2 y3 y4
  have j2 := Lib.hid (k2.out _ _ _ O5.out)
  clear k2
  go_upto_region 8 with (first
    | (go_at_call 40; (with_reducible refine j2.out.mono ?_); clear j2; rintro e w6 ⟨rfl, O6⟩; replace O6 := Lib.hid O6)
    | (refine wpList_store_O 3 _ _ rfl rfl rfl 2 2 [nI n] [nI k, nI 0, nI n, .slice none 0 0, .slice none 0 0, .slice none 0 0] O6.out rfl rfl rfl (by simp) rfl (by kernel_rfl) rfl ?_; intro w7 O7; replace O7 := Lib.hid O7))
  clear O5 O6
  obtain ⟨lQ, qQ, fQ⟩ := Own.cells 1 O7.out rfl
  have y0 := qQ 0 (by simp)
  have y1 := qQ 1 (by simp)
  have y2 := qQ 2 (by simp)
  have y3 := qQ 3 (by simp)
  have y4 := qQ 4 (by simp)
  simp only [List.getElem?_cons_succ, List.getElem?_cons_zero] at y0 y1 y2 y3 y4
  haveI : InW F w7 := ⟨lQ⟩
  clear qQ lQ fQ
  go_upto_region 11 with fail
  clear y0 y1 y2 y3 y4
  have j3 := Lib.hid (k3.out _ _ _ O7.out)
  clear k3
  go_upto_region 12 with (first
    | (go_at_call 43; (with_reducible refine j3.out.mono ?_); clear j3; rintro e w8 ⟨Al, cl, rfl, O8⟩; replace O8 := Lib.hid O8)
    | (refine wpList_store_O 36 _ _ rfl rfl rfl 3 4 [.slice Al xs.length cl] [nI k, nI 0, nI n, .slice none 0 0, .slice Al xs.length cl, .slice none 0 0] O8.out rfl rfl rfl (by simp) rfl (by kernel_rfl) rfl ?_; intro w9 O9; replace O9 := Lib.hid O9))
  clear O7 O8
  obtain ⟨lQ, qQ, fQ⟩ := Own.cells 2 O9.out rfl
  have y0 := qQ 0 (by simp)
  have y1 := qQ 1 (by simp)
  have y2 := qQ 2 (by simp)
  have y3 := qQ 3 (by simp)
  have y4 := qQ 4 (by simp)
  simp only [List.getElem?_cons_succ, List.getElem?_cons_zero] at y0 y1 y2 y3 y4
  haveI : InW F w9 := ⟨lQ⟩
  clear qQ lQ fQ
  go_upto_region 14 with fail
  clear y0 y1 y2 y3 y4
  have kD := Lib.hid (Octs.rdDone_O O9.out.rot1)
  have kQ := Lib.hid (fun w (p : w9.Plus w) => kK.out w Al cl (slRowsB rfl (Own.sl 0 (Own.atP O9.out w p) rfl)))
  clear kK
  rcases rDone_02 s3 e3 with hd | hd
  case inr =>
    obtain rfl := hF hd
    rw [hd] at kD
    clear hF hG hd kQ
    go_wp2_with (first
      | (go_at_call 47; (with_reducible refine kD.out.mono ?_); rintro e w' ⟨rfl, d1, rfl⟩)
      | (refine wpList_store_O 39 _ _ rfl rfl rfl 4 0 [nI 0, nI 0, nI 0, .slice none 0 0, .slice none 0 0, .slice none 0 0] [nI 0, nI 0, nI 0, .slice none 0 0, .slice none 0 0, .slice none 0 0] (Lib.hid (Own.atP O9.out _ (by (repeat (first | exact Plus.refl _ | apply Plus.plus | apply Plus.alloc | apply Plus.drew))))).out rfl rfl rfl (by simp) rfl (by kernel_rfl) rfl ?_; intro wz OZ; replace OZ := Lib.hid OZ))
    exact bodyPost_ret (v := .tuple #[.agg #[nI 0, nI 0, nI 0, .slice none 0 0, .slice none 0 0, .slice none 0 0], nI 2]) (results_O2 Tryz.results13 _ 4 OZ.out rfl rfl Tryz.underlying39 rfl (by kernel_rfl)) rfl ⟨a0, rfl, msgA_none (OZ.out.drop.drop.drop.drop.drop)⟩
  have hG' := hG hd
  rw [hd] at kD
  clear hF hG hd
  cases hok : okM (⟨k, 0, n, [], xs, []⟩ : MsgR) with
  | false =>
    rw [hok, if_neg (by simp)] at hG'
    subst hG'
    rw [hok] at kQ
    simp only [Bool.false_eq_true, if_false] at kQ
    clear hok
    go_wp2_with (first
      | (go_at_call 47; (with_reducible refine kD.out.mono ?_); rintro e w' ⟨rfl, d1, rfl⟩)
      | (go_at_call 26; (with_reducible refine (kQ.out _ (by (repeat (first | exact Plus.refl _ | apply Plus.plus | apply Plus.alloc | apply Plus.drew)))).mono ?_); rintro e w' ⟨rfl, d2, rfl⟩)
      | (refine wpList_load_O 39 _ rfl rfl 3 0 [nI k, nI 0, nI n, .slice none 0 0, .slice Al xs.length cl, .slice none 0 0] (Own.atP O9.out _ (by (repeat (first | exact Plus.refl _ | apply Plus.plus | apply Plus.alloc | apply Plus.drew)))) rfl rfl (by simp) rfl Tryz.underlying39 rfl (by kernel_rfl) ?_)
      | (refine wpList_store_O 39 _ _ rfl rfl rfl 4 0 [nI 0, nI 0, nI 0, .slice none 0 0, .slice none 0 0, .slice none 0 0] [nI 0, nI 0, nI 0, .slice none 0 0, .slice none 0 0, .slice none 0 0] (Lib.hid (Own.atP O9.out _ (by (repeat (first | exact Plus.refl _ | apply Plus.plus | apply Plus.alloc | apply Plus.drew))))).out rfl rfl rfl (by simp) rfl (by kernel_rfl) rfl ?_; intro wz OZ; replace OZ := Lib.hid OZ))
    exact bodyPost_ret (v := .tuple #[.agg #[nI 0, nI 0, nI 0, .slice none 0 0, .slice none 0 0, .slice none 0 0], nI 2]) (results_O2 Tryz.results13 _ 4 OZ.out rfl rfl Tryz.underlying39 rfl (by kernel_rfl)) rfl ⟨a0, rfl, msgA_none (OZ.out.drop.drop.drop.drop.drop)⟩
  | true =>
    rw [hok, if_pos rfl] at hG'
    subst hG'
    rw [hok] at kQ
    simp only [if_true] at kQ
    clear hok
    go_wp2_with (first
      | (go_at_call 47; (with_reducible refine kD.out.mono ?_); rintro e w' ⟨rfl, d1, rfl⟩)
      | (go_at_call 26; (with_reducible refine (kQ.out _ (by (repeat (first | exact Plus.refl _ | apply Plus.plus | apply Plus.alloc | apply Plus.drew)))).mono ?_); rintro e w' ⟨rfl, d2, rfl⟩)
      | (refine wpList_load_O 39 _ rfl rfl 3 0 [nI k, nI 0, nI n, .slice none 0 0, .slice Al xs.length cl, .slice none 0 0] (Own.atP O9.out _ (by (repeat (first | exact Plus.refl _ | apply Plus.plus | apply Plus.alloc | apply Plus.drew)))) rfl rfl (by simp) rfl Tryz.underlying39 rfl (by kernel_rfl) ?_)
      | (refine wpList_store_O 39 _ _ rfl rfl rfl 4 0 [nI k, nI 0, nI n, .slice none 0 0, .slice Al xs.length cl, .slice none 0 0] [nI k, nI 0, nI n, .slice none 0 0, .slice Al xs.length cl, .slice none 0 0] (Lib.hid (Own.atP O9.out _ (by (repeat (first | exact Plus.refl _ | apply Plus.plus | apply Plus.alloc | apply Plus.drew))))).out rfl rfl rfl (by simp) rfl (by kernel_rfl) rfl ?_; intro wz OZ; replace OZ := Lib.hid OZ))
    exact bodyPost_ret (v := .tuple #[.agg #[nI k, nI 0, nI n, .slice none 0 0, .slice Al xs.length cl, .slice none 0 0], nI 0]) (results_O2 Tryz.results13 _ 4 OZ.out rfl rfl Tryz.underlying39 rfl (by kernel_rfl)) rfl ⟨⟨none, Al, none, 0, cl, 0⟩, rfl, Own.nilSl (Own.rot1 (Own.nilSl (OZ.out.rot1.drop.rot1.drop.rot1.drop.rot1.drop) 3)) 16⟩
end Go.Proofs.YtpdlgflbcgemnaaGreatDoor
-- CodD3
/- codec: Decode by shapes: walks. -/
set_option linter.unusedSimpArgs false
set_option linter.unusedVariables false
namespace Go.Proofs.YtpdlgflbcgemnaaGreatDoor
open Go.RowKit Octs
set_option maxHeartbeats 2000000
set_option maxRecDepth 100000
theorem decCore_8 {W wx : World} {l : List Asn} (O : Own W wx l) (s : ByteArray) (hs : s.size ≤ 281474976710656) (k n : Int) (s1 s2 : ByteArray) (e1 e2 : Bool) (h1 : Octs.rInt s false = (k, s1, e1)) (h2 : Octs.rInt s1 e1 = (n, s2, e2)) (okb : Bool) (kO : ∀ w, Calls Tryz.prog 27 #[nI k] w fun e w' => e = .returned (.tuple #[fldV false true false false false, .bool okb]) ∧ w.Plus w') : Calls Tryz.prog 13 #[.string s] wx (DecPost W l (finM (⟨k, 0, n, [], [], []⟩ : MsgR) s2 e2)) := by
  have v0 : inv (s, false) := by intro h; cases h
  have z1 := Octs.rInt_size s false
  have v1 := rInt_inv2 s false v0
  rw [h1] at z1 v1
  simp only at z1 v1
  have kF := Lib.hid (fun w l (O : Own W w l) => Octs.of_O (s := s) O hs)
  have k1 := fun w N l (O : Own W w (Octs.rdA N s false :: l)) => Octs.rdInt_O O hs
  rw [h1] at k1
  simp only at k1
  replace k1 := Lib.hid k1
  have z2 := Octs.rInt_size s1 e1
  have v2 := rInt_inv2 s1 e1 v1
  rw [h2] at z2 v2
  simp only at z2 v2
  have k2 := fun w N l (O : Own W w (Octs.rdA N s1 e1 :: l)) => Octs.rdInt_O O (by omega)
  rw [h2] at k2
  simp only at k2
  replace k2 := Lib.hid k2
  have kK := Lib.hid (fun (w : World) => (show Calls Tryz.prog 26 #[.agg #[nI k, nI 0, nI n, .slice none 0 0, .slice none 0 0, .slice none 0 0]] w fun e w' => e = .returned (nI (if okM (⟨k, 0, n, [], [], []⟩ : MsgR) then 0 else 1)) ∧ w.Plus w' from checkMsg_any (⟨k, 0, n, [], [], []⟩ : MsgR) a0 w ⟨RowsAt.zero _ _ _ _, RowsAt.zero _ _ _ _, RowsAt.zero _ _ _ _⟩))
  obtain ⟨D, hD⟩ : ∃ D, D = finM (⟨k, 0, n, [], [], []⟩ : MsgR) s2 e2 := ⟨_, rfl⟩
  rw [← hD]
  have hF : Octs.rDone s2 e2 = 2 → D = (msZ, 2) := fun p => by rw [hD]; exact finM_bad _ _ _ p
  have hG : Octs.rDone s2 e2 = 0 → D = if okM (⟨k, 0, n, [], [], []⟩ : MsgR) then ((⟨k, 0, n, [], [], []⟩ : MsgR), 0) else (msZ, 2) := fun p => by rw [hD]; exact finM_good _ _ _ p
  clear hD
  have O0 := O.newCells [nI 0, nI 0, nI 0, .slice none 0 0, .slice none 0 0, .slice none 0 0] 39
  obtain ⟨w0, hw0⟩ : ∃ q, wx.alloc (.cells #[nI 0, nI 0, nI 0, .slice none 0 0, .slice none 0 0, .slice none 0 0] 39) = q := ⟨_, rfl⟩
  rw [hw0] at O0
  replace O0 := Lib.hid O0
  replace hw0 := Lib.hid hw0
  clear O h1 h2
  replace kO := Lib.hid kO
  go_enter Tryz.func13, Tryz.ntmps13
  go_upto_region 1 with fail
  rw [hw0.out]
  clear hw0
  generalize wx.heap.size = R0 at *
  go_upto_region 2 with (go_at_call 39; (with_reducible refine (kF.out _ _ O0.out).mono ?_); rintro e w1 ⟨N, rfl, O1⟩; replace O1 := Lib.hid O1)
  have j1 := Lib.hid (k1.out _ _ _ O1.out)
  clear kF k1 O1 O0
  go_upto_region 3 with (go_at_call 40; (with_reducible refine j1.out.mono ?_); clear j1; rintro e w2 ⟨rfl, O2⟩)
  have O3 := (O2.newCells [nI k, nI 0, nI 0, .slice none 0 0, .slice none 0 0, .slice none 0 0] 39).rot1
  obtain ⟨w3, hw3⟩ : ∃ q, w2.alloc (.cells #[nI k, nI 0, nI 0, .slice none 0 0, .slice none 0 0, .slice none 0 0] 39) = q := ⟨_, rfl⟩
  rw [hw3] at O3
  rw [hw3]
  clear hw3 O2
  generalize w2.heap.size = C at *
  have x0 := (O3.cells 1 rfl).2.1 0 (by simp)
  simp only [List.getElem?_cons_zero] at x0
  haveI : InW C w3 := ⟨(O3.cells 1 rfl).1⟩
  replace O3 := Lib.hid O3
  go_upto_region 4 with (go_at_call 27; (with_reducible refine (kO.out _).mono ?_); rintro e w' ⟨rfl, e4, rfl⟩)
  clear kO x0
  have O5 := ((O3.out.plus e4).newCells [.bool false, .bool true, .bool false, .bool false, .bool false] 67).rot1
  obtain ⟨w5, hw5⟩ : ∃ q, (w3.plus e4).alloc (.cells #[.bool false, .bool true, .bool false, .bool false, .bool false] 67) = q := ⟨_, rfl⟩
  rw [hw5] at O5
  first | rw [hw5] | skip
  clear hw5 O3
  rw [World.size_plus_eq] at O5
  generalize w3.heap.size + e4.objs.size = F at *
  obtain ⟨lQ, qQ, fQ⟩ := Own.cells 1 O5 rfl
  have y0 := qQ 0 (by simp)
  have y1 := qQ 1 (by simp)
  have y2 := qQ 2 (by simp)
  have y3 := qQ 3 (by simp)
  have y4 := qQ 4 (by simp)
  simp only [List.getElem?_cons_succ, List.getElem?_cons_zero] at y0 y1 y2 y3 y4
  haveI : InW F w5 := ⟨lQ⟩
  clear qQ lQ fQ
  replace O5 := Lib.hid O5
  go_upto_region 7 with fail
  clear y0 y1 y2 y3 y4
  have j2 := Lib.hid (k2.out _ _ _ O5.out)
  clear k2
  go_upto_region 8 with (first
    | (go_at_call 40; (with_reducible refine j2.out.mono ?_); clear j2; rintro e w6 ⟨rfl, O6⟩; replace O6 := Lib.hid O6)
    | (refine wpList_store_O 3 _ _ rfl rfl rfl 2 2 [nI n] [nI k, nI 0, nI n, .slice none 0 0, .slice none 0 0, .slice none 0 0] O6.out rfl rfl rfl (by simp) rfl (by kernel_rfl) rfl ?_; intro w7 O7; replace O7 := Lib.hid O7))
  clear O5 O6
  obtain ⟨lQ, qQ, fQ⟩ := Own.cells 1 O7.out rfl
  have y0 := qQ 0 (by simp)
  have y1 := qQ 1 (by simp)
  have y2 := qQ 2 (by simp)
  have y3 := qQ 3 (by simp)
  have y4 := qQ 4 (by simp)
  simp only [List.getElem?_cons_succ, List.getElem?_cons_zero] at y0 y1 y2 y3 y4
  haveI : InW F w7 := ⟨lQ⟩
  clear qQ lQ fQ
  go_upto_region 14 with fail
  clear y0 y1 y2 y3 y4
  have kD := Lib.hid (Octs.rdDone_O O7.out)
  have kQ := Lib.hid (fun w (p : w7.Plus w) => kK.out w)
  clear kK
  rcases rDone_02 s2 e2 with hd | hd
  case inr =>
    obtain rfl := hF hd
    rw [hd] at kD
    clear hF hG hd kQ
    go_wp2_with (first
      | (go_at_call 47; (with_reducible refine kD.out.mono ?_); rintro e w' ⟨rfl, d1, rfl⟩)
      | (refine wpList_store_O 39 _ _ rfl rfl rfl 3 0 [nI 0, nI 0, nI 0, .slice none 0 0, .slice none 0 0, .slice none 0 0] [nI 0, nI 0, nI 0, .slice none 0 0, .slice none 0 0, .slice none 0 0] (Lib.hid (Own.atP O7.out _ (by (repeat (first | exact Plus.refl _ | apply Plus.plus | apply Plus.alloc | apply Plus.drew))))).out rfl rfl rfl (by simp) rfl (by kernel_rfl) rfl ?_; intro wz OZ; replace OZ := Lib.hid OZ))
    exact bodyPost_ret (v := .tuple #[.agg #[nI 0, nI 0, nI 0, .slice none 0 0, .slice none 0 0, .slice none 0 0], nI 2]) (results_O2 Tryz.results13 _ 3 OZ.out rfl rfl Tryz.underlying39 rfl (by kernel_rfl)) rfl ⟨a0, rfl, msgA_none (OZ.out.drop.drop.drop.drop)⟩
  have hG' := hG hd
  rw [hd] at kD
  clear hF hG hd
  cases hok : okM (⟨k, 0, n, [], [], []⟩ : MsgR) with
  | false =>
    rw [hok, if_neg (by simp)] at hG'
    subst hG'
    rw [hok] at kQ
    simp only [Bool.false_eq_true, if_false] at kQ
    clear hok
    go_wp2_with (first
      | (go_at_call 47; (with_reducible refine kD.out.mono ?_); rintro e w' ⟨rfl, d1, rfl⟩)
      | (go_at_call 26; (with_reducible refine (kQ.out _ (by (repeat (first | exact Plus.refl _ | apply Plus.plus | apply Plus.alloc | apply Plus.drew)))).mono ?_); rintro e w' ⟨rfl, d2, rfl⟩)
      | (refine wpList_load_O 39 _ rfl rfl 2 0 [nI k, nI 0, nI n, .slice none 0 0, .slice none 0 0, .slice none 0 0] (Own.atP O7.out _ (by (repeat (first | exact Plus.refl _ | apply Plus.plus | apply Plus.alloc | apply Plus.drew)))) rfl rfl (by simp) rfl Tryz.underlying39 rfl (by kernel_rfl) ?_)
      | (refine wpList_store_O 39 _ _ rfl rfl rfl 3 0 [nI 0, nI 0, nI 0, .slice none 0 0, .slice none 0 0, .slice none 0 0] [nI 0, nI 0, nI 0, .slice none 0 0, .slice none 0 0, .slice none 0 0] (Lib.hid (Own.atP O7.out _ (by (repeat (first | exact Plus.refl _ | apply Plus.plus | apply Plus.alloc | apply Plus.drew))))).out rfl rfl rfl (by simp) rfl (by kernel_rfl) rfl ?_; intro wz OZ; replace OZ := Lib.hid OZ))
    exact bodyPost_ret (v := .tuple #[.agg #[nI 0, nI 0, nI 0, .slice none 0 0, .slice none 0 0, .slice none 0 0], nI 2]) (results_O2 Tryz.results13 _ 3 OZ.out rfl rfl Tryz.underlying39 rfl (by kernel_rfl)) rfl ⟨a0, rfl, msgA_none (OZ.out.drop.drop.drop.drop)⟩
  | true =>
    rw [hok, if_pos rfl] at hG'
    subst hG'
    rw [hok] at kQ
    simp only [if_true] at kQ
    clear hok
    go_wp2_with (first
      | (go_at_call 47; (with_reducible refine kD.out.mono ?_); rintro e w' ⟨rfl, d1, rfl⟩)
      | (go_at_call 26; (with_reducible refine (kQ.out _ (by (repeat (first | exact Plus.refl _ | apply Plus.plus | apply Plus.alloc | apply Plus.drew)))).mono ?_); rintro e w' ⟨rfl, d2, rfl⟩)
      | (refine wpList_load_O 39 _ rfl rfl 2 0 [nI k, nI 0, nI n, .slice none 0 0, .slice none 0 0, .slice none 0 0] (Own.atP O7.out _ (by (repeat (first | exact Plus.refl _ | apply Plus.plus | apply Plus.alloc | apply Plus.drew)))) rfl rfl (by simp) rfl Tryz.underlying39 rfl (by kernel_rfl) ?_)
      | (refine wpList_store_O 39 _ _ rfl rfl rfl 3 0 [nI k, nI 0, nI n, .slice none 0 0, .slice none 0 0, .slice none 0 0] [nI k, nI 0, nI n, .slice none 0 0, .slice none 0 0, .slice none 0 0] (Lib.hid (Own.atP O7.out _ (by (repeat (first | exact Plus.refl _ | apply Plus.plus | apply Plus.alloc | apply Plus.drew))))).out rfl rfl rfl (by simp) rfl (by kernel_rfl) rfl ?_; intro wz OZ; replace OZ := Lib.hid OZ))
    exact bodyPost_ret (v := .tuple #[.agg #[nI k, nI 0, nI n, .slice none 0 0, .slice none 0 0, .slice none 0 0], nI 0]) (results_O2 Tryz.results13 _ 3 OZ.out rfl rfl Tryz.underlying39 rfl (by kernel_rfl)) rfl ⟨a0, rfl, msgA_none (OZ.out.drop.drop.drop.drop)⟩
theorem decCore_12 {W wx : World} {l : List Asn} (O : Own W wx l) (s : ByteArray) (hs : s.size ≤ 281474976710656) (k t : Int) (xs : List BdR) (s1 s2 s3 : ByteArray) (e1 e2 e3 : Bool) (h1 : Octs.rInt s false = (k, s1, e1)) (h2 : Octs.rInt s1 e1 = (t, s2, e2)) (h3 : readL tkB s2 e2 1024 = (xs, s3, e3)) (okb : Bool) (kO : ∀ w, Calls Tryz.prog 27 #[nI k] w fun e w' => e = .returned (.tuple #[fldV true false false true false, .bool okb]) ∧ w.Plus w') : Calls Tryz.prog 13 #[.string s] wx (DecPost W l (finM (⟨k, t, 0, [], xs, []⟩ : MsgR) s3 e3)) := by
  have v0 : inv (s, false) := by intro h; cases h
  have z1 := Octs.rInt_size s false
  have v1 := rInt_inv2 s false v0
  rw [h1] at z1 v1
  simp only at z1 v1
  have kF := Lib.hid (fun w l (O : Own W w l) => Octs.of_O (s := s) O hs)
  have k1 := fun w N l (O : Own W w (Octs.rdA N s false :: l)) => Octs.rdInt_O O hs
  rw [h1] at k1
  simp only at k1
  replace k1 := Lib.hid k1
  have z2 := Octs.rInt_size s1 e1
  have v2 := rInt_inv2 s1 e1 v1
  rw [h2] at z2 v2
  simp only at z2 v2
  have k2 := fun w N l (O : Own W w (Octs.rdA N s1 e1 :: l)) => Octs.rdInt_O O (by omega)
  rw [h2] at k2
  simp only at k2
  replace k2 := Lib.hid k2
  have k3 := fun w N l (O : Own W w (Octs.rdA N s2 e2 :: l)) => takeListB_O O (by omega) v2 1024 (by decide)
  rw [h3] at k3
  simp only at k3
  replace k3 := Lib.hid k3
  have kK := Lib.hid (fun (w : World) (Al : Option Addr) (cl : Nat) (h : RowsAt w Al 11 xs.length (rowFB xs)) => (show Calls Tryz.prog 26 #[.agg #[nI k, nI t, nI 0, .slice none 0 0, .slice Al xs.length cl, .slice none 0 0]] w fun e w' => e = .returned (nI (if okM (⟨k, t, 0, [], xs, []⟩ : MsgR) then 0 else 1)) ∧ w.Plus w' from checkMsg_any (⟨k, t, 0, [], xs, []⟩ : MsgR) ⟨none, Al, none, 0, cl, 0⟩ w ⟨RowsAt.zero _ _ _ _, h, RowsAt.zero _ _ _ _⟩))
  obtain ⟨D, hD⟩ : ∃ D, D = finM (⟨k, t, 0, [], xs, []⟩ : MsgR) s3 e3 := ⟨_, rfl⟩
  rw [← hD]
  have hF : Octs.rDone s3 e3 = 2 → D = (msZ, 2) := fun p => by rw [hD]; exact finM_bad _ _ _ p
  have hG : Octs.rDone s3 e3 = 0 → D = if okM (⟨k, t, 0, [], xs, []⟩ : MsgR) then ((⟨k, t, 0, [], xs, []⟩ : MsgR), 0) else (msZ, 2) := fun p => by rw [hD]; exact finM_good _ _ _ p
  clear hD
  have O0 := O.newCells [nI 0, nI 0, nI 0, .slice none 0 0, .slice none 0 0, .slice none 0 0] 39
  obtain ⟨w0, hw0⟩ : ∃ q, wx.alloc (.cells #[nI 0, nI 0, nI 0, .slice none 0 0, .slice none 0 0, .slice none 0 0] 39) = q := ⟨_, rfl⟩
  rw [hw0] at O0
  replace O0 := Lib.hid O0
  replace hw0 := Lib.hid hw0
  clear O h1 h2 h3
  replace kO := Lib.hid kO
  go_enter Tryz.func13, Tryz.ntmps13
  go_upto_region 1 with fail
  rw [hw0.out]
  clear hw0
  generalize wx.heap.size = R0 at *
  go_upto_region 2 with (go_at_call 39; (with_reducible refine (kF.out _ _ O0.out).mono ?_); rintro e w1 ⟨N, rfl, O1⟩; replace O1 := Lib.hid O1)
  have j1 := Lib.hid (k1.out _ _ _ O1.out)
  clear kF k1 O1 O0
  go_upto_region 3 with (go_at_call 40; (with_reducible refine j1.out.mono ?_); clear j1; rintro e w2 ⟨rfl, O2⟩)
  have O3 := (O2.newCells [nI k, nI 0, nI 0, .slice none 0 0, .slice none 0 0, .slice none 0 0] 39).rot1
  obtain ⟨w3, hw3⟩ : ∃ q, w2.alloc (.cells #[nI k, nI 0, nI 0, .slice none 0 0, .slice none 0 0, .slice none 0 0] 39) = q := ⟨_, rfl⟩
  rw [hw3] at O3
  rw [hw3]
  clear hw3 O2
  generalize w2.heap.size = C at *
  have x0 := (O3.cells 1 rfl).2.1 0 (by simp)
  simp only [List.getElem?_cons_zero] at x0
  haveI : InW C w3 := ⟨(O3.cells 1 rfl).1⟩
  replace O3 := Lib.hid O3
  go_upto_region 4 with (go_at_call 27; (with_reducible refine (kO.out _).mono ?_); rintro e w' ⟨rfl, e4, rfl⟩)
  clear kO x0
  have O5 := ((O3.out.plus e4).newCells [.bool true, .bool false, .bool false, .bool true, .bool false] 67).rot1
  obtain ⟨w5, hw5⟩ : ∃ q, (w3.plus e4).alloc (.cells #[.bool true, .bool false, .bool false, .bool true, .bool false] 67) = q := ⟨_, rfl⟩
  rw [hw5] at O5
  first | rw [hw5] | skip
  clear hw5 O3
  rw [World.size_plus_eq] at O5
  generalize w3.heap.size + e4.objs.size = F at *
  obtain ⟨lQ, qQ, fQ⟩ := Own.cells 1 O5 rfl
  have y0 := qQ 0 (by simp)
  have y1 := qQ 1 (by simp)
  have y2 := qQ 2 (by simp)
  have y3 := qQ 3 (by simp)
  have y4 := qQ 4 (by simp)
  simp only [List.getElem?_cons_succ, List.getElem?_cons_zero] at y0 y1 y2 y3 y4
  haveI : InW F w5 := ⟨lQ⟩
  clear qQ lQ fQ
  replace O5 := Lib.hid O5
  go_upto_region 5 with fail
  clear y0 y1 y2 y3 y4
  have j2 := Lib.hid (k2.out _ _ _ O5.out)
  clear k2
  go_upto_region 6 with (first
    | (go_at_call 40; (with_reducible refine j2.out.mono ?_); clear j2; rintro e w6 ⟨rfl, O6⟩; replace O6 := Lib.hid O6)
    | (refine wpList_store_O 3 _ _ rfl rfl rfl 2 1 [nI t] [nI k, nI t, nI 0, .slice none 0 0, .slice none 0 0, .slice none 0 0] O6.out rfl rfl rfl (by simp) rfl (by kernel_rfl) rfl ?_; intro w7 O7; replace O7 := Lib.hid O7))
  clear O5 O6
  obtain ⟨lQ, qQ, fQ⟩ := Own.cells 1 O7.out rfl
  have y0 := qQ 0 (by simp)
  have y1 := qQ 1 (by simp)
  have y2 := qQ 2 (by simp)
  have y3 := qQ 3 (by simp)
  have y4 := qQ 4 (by simp)
  simp only [List.getElem?_cons_succ, List.getElem?_cons_zero] at y0 y1 y2 y3 y4
  haveI : InW F w7 := ⟨lQ⟩
  clear qQ lQ fQ
  go_upto_region 11 with fail
  clear y0 y1 y2 y3 y4
  have j3 := Lib.hid (k3.out _ _ _ O7.out)
  clear k3
  go_upto_region 12 with (first
    | (go_at_call 43; (with_reducible refine j3.out.mono ?_); clear j3; rintro e w8 ⟨Al, cl, rfl, O8⟩; replace O8 := Lib.hid O8)
    | (refine wpList_store_O 36 _ _ rfl rfl rfl 3 4 [.slice Al xs.length cl] [nI k, nI t, nI 0, .slice none 0 0, .slice Al xs.length cl, .slice none 0 0] O8.out rfl rfl rfl (by simp) rfl (by kernel_rfl) rfl ?_; intro w9 O9; replace O9 := Lib.hid O9))
  clear O7 O8
  obtain ⟨lQ, qQ, fQ⟩ := Own.cells 2 O9.out rfl
  have y0 := qQ 0 (by simp)
  have y1 := qQ 1 (by simp)
  have y2 := qQ 2 (by simp)
  have y3 := qQ 3 (by simp)
  have y4 := qQ 4 (by simp)
  simp only [List.getElem?_cons_succ, List.getElem?_cons_zero] at y0 y1 y2 y3 y4
  haveI : InW F w9 := ⟨lQ⟩
  clear qQ lQ fQ
  go_upto_region 14 with fail
  clear y0 y1 y2 y3 y4
  have kD := Lib.hid (Octs.rdDone_O O9.out.rot1)
  have kQ := Lib.hid (fun w (p : w9.Plus w) => kK.out w Al cl (slRowsB rfl (Own.sl 0 (Own.atP O9.out w p) rfl)))
  clear kK
  rcases rDone_02 s3 e3 with hd | hd
  case inr =>
    obtain rfl := hF hd
    rw [hd] at kD
    clear hF hG hd kQ
    go_wp2_with (first
      | (go_at_call 47; (with_reducible refine kD.out.mono ?_); rintro e w' ⟨rfl, d1, rfl⟩)
      | (refine wpList_store_O 39 _ _ rfl rfl rfl 4 0 [nI 0, nI 0, nI 0, .slice none 0 0, .slice none 0 0, .slice none 0 0] [nI 0, nI 0, nI 0, .slice none 0 0, .slice none 0 0, .slice none 0 0] (Lib.hid (Own.atP O9.out _ (by (repeat (first | exact Plus.refl _ | apply Plus.plus | apply Plus.alloc | apply Plus.drew))))).out rfl rfl rfl (by simp) rfl (by kernel_rfl) rfl ?_; intro wz OZ; replace OZ := Lib.hid OZ))
    exact bodyPost_ret (v := .tuple #[.agg #[nI 0, nI 0, nI 0, .slice none 0 0, .slice none 0 0, .slice none 0 0], nI 2]) (results_O2 Tryz.results13 _ 4 OZ.out rfl rfl Tryz.underlying39 rfl (by kernel_rfl)) rfl ⟨a0, rfl, msgA_none (OZ.out.drop.drop.drop.drop.drop)⟩
  have hG' := hG hd
  rw [hd] at kD
  clear hF hG hd
  cases hok : okM (⟨k, t, 0, [], xs, []⟩ : MsgR) with
  | false =>
    rw [hok, if_neg (by simp)] at hG'
    subst hG'
    rw [hok] at kQ
    simp only [Bool.false_eq_true, if_false] at kQ
    clear hok
    go_wp2_with (first
      | (go_at_call 47; (with_reducible refine kD.out.mono ?_); rintro e w' ⟨rfl, d1, rfl⟩)
      | (go_at_call 26; (with_reducible refine (kQ.out _ (by (repeat (first | exact Plus.refl _ | apply Plus.plus | apply Plus.alloc | apply Plus.drew)))).mono ?_); rintro e w' ⟨rfl, d2, rfl⟩)
      | (refine wpList_load_O 39 _ rfl rfl 3 0 [nI k, nI t, nI 0, .slice none 0 0, .slice Al xs.length cl, .slice none 0 0] (Own.atP O9.out _ (by (repeat (first | exact Plus.refl _ | apply Plus.plus | apply Plus.alloc | apply Plus.drew)))) rfl rfl (by simp) rfl Tryz.underlying39 rfl (by kernel_rfl) ?_)
      | (refine wpList_store_O 39 _ _ rfl rfl rfl 4 0 [nI 0, nI 0, nI 0, .slice none 0 0, .slice none 0 0, .slice none 0 0] [nI 0, nI 0, nI 0, .slice none 0 0, .slice none 0 0, .slice none 0 0] (Lib.hid (Own.atP O9.out _ (by (repeat (first | exact Plus.refl _ | apply Plus.plus | apply Plus.alloc | apply Plus.drew))))).out rfl rfl rfl (by simp) rfl (by kernel_rfl) rfl ?_; intro wz OZ; replace OZ := Lib.hid OZ))
    exact bodyPost_ret (v := .tuple #[.agg #[nI 0, nI 0, nI 0, .slice none 0 0, .slice none 0 0, .slice none 0 0], nI 2]) (results_O2 Tryz.results13 _ 4 OZ.out rfl rfl Tryz.underlying39 rfl (by kernel_rfl)) rfl ⟨a0, rfl, msgA_none (OZ.out.drop.drop.drop.drop.drop)⟩
  | true =>
    rw [hok, if_pos rfl] at hG'
    subst hG'
    rw [hok] at kQ
    simp only [if_true] at kQ
    clear hok
    go_wp2_with (first
      | (go_at_call 47; (with_reducible refine kD.out.mono ?_); rintro e w' ⟨rfl, d1, rfl⟩)
      | (go_at_call 26; (with_reducible refine (kQ.out _ (by (repeat (first | exact Plus.refl _ | apply Plus.plus | apply Plus.alloc | apply Plus.drew)))).mono ?_); rintro e w' ⟨rfl, d2, rfl⟩)
      | (refine wpList_load_O 39 _ rfl rfl 3 0 [nI k, nI t, nI 0, .slice none 0 0, .slice Al xs.length cl, .slice none 0 0] (Own.atP O9.out _ (by (repeat (first | exact Plus.refl _ | apply Plus.plus | apply Plus.alloc | apply Plus.drew)))) rfl rfl (by simp) rfl Tryz.underlying39 rfl (by kernel_rfl) ?_)
      | (refine wpList_store_O 39 _ _ rfl rfl rfl 4 0 [nI k, nI t, nI 0, .slice none 0 0, .slice Al xs.length cl, .slice none 0 0] [nI k, nI t, nI 0, .slice none 0 0, .slice Al xs.length cl, .slice none 0 0] (Lib.hid (Own.atP O9.out _ (by (repeat (first | exact Plus.refl _ | apply Plus.plus | apply Plus.alloc | apply Plus.drew))))).out rfl rfl rfl (by simp) rfl (by kernel_rfl) rfl ?_; intro wz OZ; replace OZ := Lib.hid OZ))
    exact bodyPost_ret (v := .tuple #[.agg #[nI k, nI t, nI 0, .slice none 0 0, .slice Al xs.length cl, .slice none 0 0], nI 0]) (results_O2 Tryz.results13 _ 4 OZ.out rfl rfl Tryz.underlying39 rfl (by kernel_rfl)) rfl ⟨⟨none, Al, none, 0, cl, 0⟩, rfl, Own.nilSl (Own.rot1 (Own.nilSl (OZ.out.rot1.drop.rot1.drop.rot1.drop.rot1.drop) 3)) 16⟩
end Go.Proofs.YtpdlgflbcgemnaaGreatDoor
