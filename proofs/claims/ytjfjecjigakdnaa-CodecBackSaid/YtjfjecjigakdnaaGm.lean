/- Plain laws and walks: CodD4, CodD5, CodD6. -/
import Derived.Test.YtjfjecjigakdnaaCodDp
import Derived.Test.YtjfjecjigakdnaaCodMm
import Derived.Test.YtjfjecjigakdnaaCodTE
-- CodD4
/- codec: the reference's Decode by shapes: walks. -/
set_option linter.unusedSimpArgs false
set_option linter.unusedVariables false
namespace Go.Proofs.Ytjfjecjigakdnaa
open Go.RowKit Octs
set_option maxHeartbeats 2000000
set_option maxRecDepth 100000
theorem refDecCore_1 {W wx : World} {l : List Asn} (O : Own W wx l) (s : ByteArray) (hs : s.size ≤ 281474976710656) (k t : Int) (xs : List CmdR) (s1 s2 s3 : ByteArray) (e1 e2 e3 : Bool) (h1 : Octs.rInt s false = (k, s1, e1)) (h2 : Octs.rInt s1 e1 = (t, s2, e2)) (h3 : readL tkC s2 e2 64 = (xs, s3, e3)) (m1 : (k == 1) = true) (kA : ∀ w, Calls Try.prog 73 #[nI k] w fun e w' => e = .returned (.bool true) ∧ w.Plus w') (kB : ∀ w, Calls Try.prog 74 #[nI k] w fun e w' => e = .returned (.bool false) ∧ w.Plus w') : Calls Try.prog 42 #[.string s] wx (DecPost W l (finM (⟨k, t, 0, xs, [], []⟩ : MsgR) s3 e3)) := by
  have v0 : inv (s, false) := by intro h; cases h
  have z1 := Octs.rInt_size s false
  have v1 := rInt_inv2 s false v0
  rw [h1] at z1 v1
  simp only at z1 v1
  have k1 := fun w N l (O : Own W w (Octs.rdA N s false :: l)) => Octs.refRdInt_O O hs v0
  rw [h1] at k1
  simp only at k1
  replace k1 := Lib.hid k1
  have z2 := Octs.rInt_size s1 e1
  have v2 := rInt_inv2 s1 e1 v1
  rw [h2] at z2 v2
  simp only at z2 v2
  have k2 := fun w N l (O : Own W w (Octs.rdA N s1 e1 :: l)) => Octs.refRdInt_O O (by omega) v1
  rw [h2] at k2
  simp only at k2
  replace k2 := Lib.hid k2
  have k3 := fun w N l (O : Own W w (Octs.rdA N s2 e2 :: l)) => refListC_O O (by omega) v2 64 (by decide)
  rw [h3] at k3
  simp only at k3
  replace k3 := Lib.hid k3
  have kK := Lib.hid (fun (w : World) (Al : Option Addr) (cl : Nat) (h : RowsAt w Al 16 xs.length (rowFC xs)) => (show Calls Try.prog 72 #[.agg #[nI k, nI t, nI 0, .slice Al xs.length cl, .slice none 0 0, .slice none 0 0]] w fun e w' => e = .returned (.bool (okM (⟨k, t, 0, xs, [], []⟩ : MsgR))) ∧ w.Plus w' from refMay_any (⟨k, t, 0, xs, [], []⟩ : MsgR) ⟨Al, none, none, cl, 0, 0⟩ w ⟨h, RowsAt.zero _ _ _ _, RowsAt.zero _ _ _ _⟩))
  obtain ⟨D, hD⟩ : ∃ D, D = finM (⟨k, t, 0, xs, [], []⟩ : MsgR) s3 e3 := ⟨_, rfl⟩
  rw [← hD]
  have hF0 : Octs.rDone s3 e3 = 2 → D = (msZ, 2) := fun p => by rw [hD]; exact finM_bad _ _ _ p
  have hG0 : Octs.rDone s3 e3 = 0 → D = if okM (⟨k, t, 0, xs, [], []⟩ : MsgR) then ((⟨k, t, 0, xs, [], []⟩ : MsgR), 0) else (msZ, 2) := fun p => by rw [hD]; exact finM_good _ _ _ p
  clear hD
  have O0 := O.newCells [nI 0, nI 0, nI 0, .slice none 0 0, .slice none 0 0, .slice none 0 0] 62
  obtain ⟨w0, hw0⟩ : ∃ q, wx.alloc (.cells #[nI 0, nI 0, nI 0, .slice none 0 0, .slice none 0 0, .slice none 0 0] 62) = q := ⟨_, rfl⟩
  rw [hw0] at O0
  replace O0 := Lib.hid O0
  replace hw0 := Lib.hid hw0
  clear O h1 h2 h3
  have hF : (e3 = true ∨ s3.size ≠ 0) → D = (msZ, 2) := fun p => hF0 (by
    unfold Octs.rDone
    rw [if_pos (p.imp id (fun h e => h (by rw [e]; rfl)))])
  have hG : e3 = false → s3.size = 0 → D = if okM (⟨k, t, 0, xs, [], []⟩ : MsgR) then ((⟨k, t, 0, xs, [], []⟩ : MsgR), 0) else (msZ, 2) := fun p q => hG0 (by
    unfold Octs.rDone
    rw [if_neg (by rw [p, Octs.empty_of_size q]; simp)])
  clear hF0 hG0
  replace kA := Lib.hid kA
  replace kB := Lib.hid kB
  go_enter Try.func42, Try.ntmps42
  go_upto_region 1 with fail
  rw [hw0.out]
  clear hw0
  generalize wx.heap.size = R0 at *
  go_upto_region 2 with fail
  have O1 := Own.newRd O0.out s 37
  obtain ⟨w1, hw1⟩ : ∃ q, w0.alloc (.cells #[.string s, .bool false] 37) = q := ⟨_, rfl⟩
  rw [hw1] at O1
  rw [hw1]
  clear hw1 O0
  generalize w0.heap.size = N at *
  have j1 := Lib.hid (k1.out _ _ _ O1)
  clear k1 O1
  go_upto_region 3 with (go_at_call 56; (with_reducible refine j1.out.mono ?_); clear j1; rintro e w2 ⟨rfl, O2⟩)
  have O3 := (O2.newCells [nI k, nI 0, nI 0, .slice none 0 0, .slice none 0 0, .slice none 0 0] 62).rot1
  obtain ⟨w3, hw3⟩ : ∃ q, w2.alloc (.cells #[nI k, nI 0, nI 0, .slice none 0 0, .slice none 0 0, .slice none 0 0] 62) = q := ⟨_, rfl⟩
  rw [hw3] at O3
  rw [hw3]
  clear hw3 O2
  generalize w2.heap.size = C at *
  have x0 := (Own.cells 1 O3 rfl).2.1 0 (by simp)
  simp only [List.getElem?_cons_zero] at x0
  haveI : InW C w3 := ⟨(Own.cells 1 O3 rfl).1⟩
  replace O3 := Lib.hid O3
  go_upto_region 4 with (first
    | (go_at_call 73; (with_reducible refine (kA.out _).mono ?_); rintro e w' ⟨rfl, eA, rfl⟩)
    | (go_at_call 74; (with_reducible refine (kB.out _).mono ?_); rintro e w' ⟨rfl, eB, rfl⟩))
  go_upto_region 5 with (first
    | (go_at_call 56; (with_reducible refine (k2.out _ _ _ (Own.atP O3.out _ (by (repeat (first | exact Plus.refl _ | apply Plus.plus | apply Plus.alloc | apply Plus.drew))))).mono ?_); clear k2 x0; rintro e w6 ⟨rfl, O6⟩; replace O6 := Lib.hid O6)
    | (refine wpList_store_O 3 _ _ rfl rfl rfl 1 1 [nI t] [nI k, nI t, nI 0, .slice none 0 0, .slice none 0 0, .slice none 0 0] O6.out rfl rfl rfl (by simp) rfl (by kernel_rfl) rfl ?_; intro w7 O7; replace O7 := Lib.hid O7))
  clear O3 O6
  have x0 := (Own.cells 1 O7.out rfl).2.1 0 (by simp)
  simp only [List.getElem?_cons_zero] at x0
  haveI : InW C w7 := ⟨(Own.cells 1 O7.out rfl).1⟩
  go_upto_region 9 with (first
    | (go_at_call 73; (with_reducible refine (kA.out _).mono ?_); rintro e w' ⟨rfl, eA, rfl⟩)
    | (go_at_call 74; (with_reducible refine (kB.out _).mono ?_); rintro e w' ⟨rfl, eB, rfl⟩))
  go_upto_region 15 with (first
    | (go_at_call 33; (with_reducible refine (k3.out _ _ _ (Own.atP O7.out _ (by (repeat (first | exact Plus.refl _ | apply Plus.plus | apply Plus.alloc | apply Plus.drew))))).mono ?_); clear k3 x0; rintro e w8 ⟨Al, cl, rfl, O8⟩; replace O8 := Lib.hid O8)
    | (refine wpList_store_O 53 _ _ rfl rfl rfl 2 3 [.slice Al xs.length cl] [nI k, nI t, nI 0, .slice Al xs.length cl, .slice none 0 0, .slice none 0 0] O8.out rfl rfl rfl (by simp) rfl (by kernel_rfl) rfl ?_; intro w9 O9; replace O9 := Lib.hid O9))
  clear O7 O8
  obtain ⟨lt, c0', c1', f0', f1'⟩ := Octs.Own.rd 1 O9.out rfl
  haveI : InW N w9 := ⟨lt⟩
  clear lt f0' f1'
  have kQ := Lib.hid (fun w (p : w9.Plus w) => kK.out w Al cl (slRowsC rfl (Own.sl 0 (Own.atP O9.out w p) rfl)))
  clear kK kA kB
  cases e3 with
  | true =>
    obtain rfl := hF (.inl rfl)
    clear hF hG kQ
    go_wp2_with (first
      | (refine wpList_store_O 62 _ _ rfl rfl rfl 3 0 [nI 0, nI 0, nI 0, .slice none 0 0, .slice none 0 0, .slice none 0 0] [nI 0, nI 0, nI 0, .slice none 0 0, .slice none 0 0, .slice none 0 0] (Lib.hid (Own.atP O9.out _ (by (repeat (first | exact Plus.refl _ | apply Plus.plus | apply Plus.alloc | apply Plus.drew))))).out rfl rfl rfl (by simp) rfl (by kernel_rfl) rfl ?_; intro wz OZ; replace OZ := Lib.hid OZ))
    exact bodyPost_ret (v := .tuple #[.agg #[nI 0, nI 0, nI 0, .slice none 0 0, .slice none 0 0, .slice none 0 0], nI 2]) (results_O2 Try.results42 _ 3 OZ.out rfl rfl Try.underlying62 rfl (by kernel_rfl)) rfl ⟨a0, rfl, msgA_none (OZ.out.drop.drop.drop.drop)⟩
  | false =>
  by_cases hz : s3.size = 0
  case neg =>
    obtain rfl := hF (.inr hz)
    have hzi : (0 : Int) < (s3.size : Nat) := by omega
    have hzn : 0 < s3.size := by omega
    have hze : ¬ s3 = ByteArray.empty := fun e => hz (by rw [e]; rfl)
    clear hF hG kQ hz
    go_wp2_with (first
      | (refine wpList_store_O 62 _ _ rfl rfl rfl 3 0 [nI 0, nI 0, nI 0, .slice none 0 0, .slice none 0 0, .slice none 0 0] [nI 0, nI 0, nI 0, .slice none 0 0, .slice none 0 0, .slice none 0 0] (Lib.hid (Own.atP O9.out _ (by (repeat (first | exact Plus.refl _ | apply Plus.plus | apply Plus.alloc | apply Plus.drew))))).out rfl rfl rfl (by simp) rfl (by kernel_rfl) rfl ?_; intro wz OZ; replace OZ := Lib.hid OZ))
    exact bodyPost_ret (v := .tuple #[.agg #[nI 0, nI 0, nI 0, .slice none 0 0, .slice none 0 0, .slice none 0 0], nI 2]) (results_O2 Try.results42 _ 3 OZ.out rfl rfl Try.underlying62 rfl (by kernel_rfl)) rfl ⟨a0, rfl, msgA_none (OZ.out.drop.drop.drop.drop)⟩
  case pos =>
  have hzi : ¬ (0 : Int) < (s3.size : Nat) := by omega
  have hG' := hG rfl hz
  have hze : s3 = ByteArray.empty := Octs.empty_of_size hz
  clear hF hG
  cases hok : okM (⟨k, t, 0, xs, [], []⟩ : MsgR) with
  | false =>
    rw [hok, if_neg (by simp)] at hG'
    subst hG'
    rw [hok] at kQ
    clear hok
    go_wp2_with (first
      | (go_at_call 72; (with_reducible refine (kQ.out _ (by (repeat (first | exact Plus.refl _ | apply Plus.plus | apply Plus.alloc | apply Plus.drew)))).mono ?_); rintro e w' ⟨rfl, d2, rfl⟩)
      | (refine wpList_load_O 62 _ rfl rfl 2 0 [nI k, nI t, nI 0, .slice Al xs.length cl, .slice none 0 0, .slice none 0 0] (Own.atP O9.out _ (by (repeat (first | exact Plus.refl _ | apply Plus.plus | apply Plus.alloc | apply Plus.drew)))) rfl rfl (by simp) rfl Try.underlying62 rfl (by kernel_rfl) ?_)
      | (refine wpList_store_O 62 _ _ rfl rfl rfl 3 0 [nI 0, nI 0, nI 0, .slice none 0 0, .slice none 0 0, .slice none 0 0] [nI 0, nI 0, nI 0, .slice none 0 0, .slice none 0 0, .slice none 0 0] (Lib.hid (Own.atP O9.out _ (by (repeat (first | exact Plus.refl _ | apply Plus.plus | apply Plus.alloc | apply Plus.drew))))).out rfl rfl rfl (by simp) rfl (by kernel_rfl) rfl ?_; intro wz OZ; replace OZ := Lib.hid OZ))
    exact bodyPost_ret (v := .tuple #[.agg #[nI 0, nI 0, nI 0, .slice none 0 0, .slice none 0 0, .slice none 0 0], nI 2]) (results_O2 Try.results42 _ 3 OZ.out rfl rfl Try.underlying62 rfl (by kernel_rfl)) rfl ⟨a0, rfl, msgA_none (OZ.out.drop.drop.drop.drop)⟩
  | true =>
    rw [hok, if_pos rfl] at hG'
    subst hG'
    rw [hok] at kQ
    clear hok
    go_wp2_with (first
      | (go_at_call 72; (with_reducible refine (kQ.out _ (by (repeat (first | exact Plus.refl _ | apply Plus.plus | apply Plus.alloc | apply Plus.drew)))).mono ?_); rintro e w' ⟨rfl, d2, rfl⟩)
      | (refine wpList_load_O 62 _ rfl rfl 2 0 [nI k, nI t, nI 0, .slice Al xs.length cl, .slice none 0 0, .slice none 0 0] (Own.atP O9.out _ (by (repeat (first | exact Plus.refl _ | apply Plus.plus | apply Plus.alloc | apply Plus.drew)))) rfl rfl (by simp) rfl Try.underlying62 rfl (by kernel_rfl) ?_)
      | (refine wpList_store_O 62 _ _ rfl rfl rfl 3 0 [nI k, nI t, nI 0, .slice Al xs.length cl, .slice none 0 0, .slice none 0 0] [nI k, nI t, nI 0, .slice Al xs.length cl, .slice none 0 0, .slice none 0 0] (Lib.hid (Own.atP O9.out _ (by (repeat (first | exact Plus.refl _ | apply Plus.plus | apply Plus.alloc | apply Plus.drew))))).out rfl rfl rfl (by simp) rfl (by kernel_rfl) rfl ?_; intro wz OZ; replace OZ := Lib.hid OZ))
    exact bodyPost_ret (v := .tuple #[.agg #[nI k, nI t, nI 0, .slice Al xs.length cl, .slice none 0 0, .slice none 0 0], nI 0]) (results_O2 Try.results42 _ 3 OZ.out rfl rfl Try.underlying62 rfl (by kernel_rfl)) rfl ⟨⟨Al, none, none, cl, 0, 0⟩, rfl, Own.pull 2 (Own.nilSl (Own.nilSl (OZ.out.rot1.drop.rot1.drop.rot1.drop) 3) 11) rfl⟩
theorem refDecCore_2 {W wx : World} {l : List Asn} (O : Own W wx l) (s : ByteArray) (hs : s.size ≤ 281474976710656) (k t : Int) (s1 s2 : ByteArray) (e1 e2 : Bool) (h1 : Octs.rInt s false = (k, s1, e1)) (h2 : Octs.rInt s1 e1 = (t, s2, e2)) (m1 : (k == 1) = false) (m4 : (k == 4) = false) (m7 : (k == 7) = false) (m12 : (k == 12) = false) (kA : ∀ w, Calls Try.prog 73 #[nI k] w fun e w' => e = .returned (.bool true) ∧ w.Plus w') (kB : ∀ w, Calls Try.prog 74 #[nI k] w fun e w' => e = .returned (.bool false) ∧ w.Plus w') : Calls Try.prog 42 #[.string s] wx (DecPost W l (finM (⟨k, t, 0, [], [], []⟩ : MsgR) s2 e2)) := by
  have v0 : inv (s, false) := by intro h; cases h
  have z1 := Octs.rInt_size s false
  have v1 := rInt_inv2 s false v0
  rw [h1] at z1 v1
  simp only at z1 v1
  have k1 := fun w N l (O : Own W w (Octs.rdA N s false :: l)) => Octs.refRdInt_O O hs v0
  rw [h1] at k1
  simp only at k1
  replace k1 := Lib.hid k1
  have z2 := Octs.rInt_size s1 e1
  have v2 := rInt_inv2 s1 e1 v1
  rw [h2] at z2 v2
  simp only at z2 v2
  have k2 := fun w N l (O : Own W w (Octs.rdA N s1 e1 :: l)) => Octs.refRdInt_O O (by omega) v1
  rw [h2] at k2
  simp only at k2
  replace k2 := Lib.hid k2
  have kK := Lib.hid (fun (w : World) => (show Calls Try.prog 72 #[.agg #[nI k, nI t, nI 0, .slice none 0 0, .slice none 0 0, .slice none 0 0]] w fun e w' => e = .returned (.bool (okM (⟨k, t, 0, [], [], []⟩ : MsgR))) ∧ w.Plus w' from refMay_any (⟨k, t, 0, [], [], []⟩ : MsgR) a0 w ⟨RowsAt.zero _ _ _ _, RowsAt.zero _ _ _ _, RowsAt.zero _ _ _ _⟩))
  obtain ⟨D, hD⟩ : ∃ D, D = finM (⟨k, t, 0, [], [], []⟩ : MsgR) s2 e2 := ⟨_, rfl⟩
  rw [← hD]
  have hF0 : Octs.rDone s2 e2 = 2 → D = (msZ, 2) := fun p => by rw [hD]; exact finM_bad _ _ _ p
  have hG0 : Octs.rDone s2 e2 = 0 → D = if okM (⟨k, t, 0, [], [], []⟩ : MsgR) then ((⟨k, t, 0, [], [], []⟩ : MsgR), 0) else (msZ, 2) := fun p => by rw [hD]; exact finM_good _ _ _ p
  clear hD
  have O0 := O.newCells [nI 0, nI 0, nI 0, .slice none 0 0, .slice none 0 0, .slice none 0 0] 62
  obtain ⟨w0, hw0⟩ : ∃ q, wx.alloc (.cells #[nI 0, nI 0, nI 0, .slice none 0 0, .slice none 0 0, .slice none 0 0] 62) = q := ⟨_, rfl⟩
  rw [hw0] at O0
  replace O0 := Lib.hid O0
  replace hw0 := Lib.hid hw0
  clear O h1 h2
  have hF : (e2 = true ∨ s2.size ≠ 0) → D = (msZ, 2) := fun p => hF0 (by
    unfold Octs.rDone
    rw [if_pos (p.imp id (fun h e => h (by rw [e]; rfl)))])
  have hG : e2 = false → s2.size = 0 → D = if okM (⟨k, t, 0, [], [], []⟩ : MsgR) then ((⟨k, t, 0, [], [], []⟩ : MsgR), 0) else (msZ, 2) := fun p q => hG0 (by
    unfold Octs.rDone
    rw [if_neg (by rw [p, Octs.empty_of_size q]; simp)])
  clear hF0 hG0
  replace kA := Lib.hid kA
  replace kB := Lib.hid kB
  go_enter Try.func42, Try.ntmps42
  go_upto_region 1 with fail
  rw [hw0.out]
  clear hw0
  generalize wx.heap.size = R0 at *
  go_upto_region 2 with fail
  have O1 := Own.newRd O0.out s 37
  obtain ⟨w1, hw1⟩ : ∃ q, w0.alloc (.cells #[.string s, .bool false] 37) = q := ⟨_, rfl⟩
  rw [hw1] at O1
  rw [hw1]
  clear hw1 O0
  generalize w0.heap.size = N at *
  have j1 := Lib.hid (k1.out _ _ _ O1)
  clear k1 O1
  go_upto_region 3 with (go_at_call 56; (with_reducible refine j1.out.mono ?_); clear j1; rintro e w2 ⟨rfl, O2⟩)
  have O3 := (O2.newCells [nI k, nI 0, nI 0, .slice none 0 0, .slice none 0 0, .slice none 0 0] 62).rot1
  obtain ⟨w3, hw3⟩ : ∃ q, w2.alloc (.cells #[nI k, nI 0, nI 0, .slice none 0 0, .slice none 0 0, .slice none 0 0] 62) = q := ⟨_, rfl⟩
  rw [hw3] at O3
  rw [hw3]
  clear hw3 O2
  generalize w2.heap.size = C at *
  have x0 := (Own.cells 1 O3 rfl).2.1 0 (by simp)
  simp only [List.getElem?_cons_zero] at x0
  haveI : InW C w3 := ⟨(Own.cells 1 O3 rfl).1⟩
  replace O3 := Lib.hid O3
  go_upto_region 4 with (first
    | (go_at_call 73; (with_reducible refine (kA.out _).mono ?_); rintro e w' ⟨rfl, eA, rfl⟩)
    | (go_at_call 74; (with_reducible refine (kB.out _).mono ?_); rintro e w' ⟨rfl, eB, rfl⟩))
  go_upto_region 5 with (first
    | (go_at_call 56; (with_reducible refine (k2.out _ _ _ (Own.atP O3.out _ (by (repeat (first | exact Plus.refl _ | apply Plus.plus | apply Plus.alloc | apply Plus.drew))))).mono ?_); clear k2 x0; rintro e w6 ⟨rfl, O6⟩; replace O6 := Lib.hid O6)
    | (refine wpList_store_O 3 _ _ rfl rfl rfl 1 1 [nI t] [nI k, nI t, nI 0, .slice none 0 0, .slice none 0 0, .slice none 0 0] O6.out rfl rfl rfl (by simp) rfl (by kernel_rfl) rfl ?_; intro w7 O7; replace O7 := Lib.hid O7))
  clear O3 O6
  have x0 := (Own.cells 1 O7.out rfl).2.1 0 (by simp)
  simp only [List.getElem?_cons_zero] at x0
  haveI : InW C w7 := ⟨(Own.cells 1 O7.out rfl).1⟩
  go_upto_region 15 with (first
    | (go_at_call 73; (with_reducible refine (kA.out _).mono ?_); rintro e w' ⟨rfl, eA, rfl⟩)
    | (go_at_call 74; (with_reducible refine (kB.out _).mono ?_); rintro e w' ⟨rfl, eB, rfl⟩))
  clear x0
  obtain ⟨lt, c0', c1', f0', f1'⟩ := Octs.Own.rd 0 O7.out rfl
  haveI : InW N w7 := ⟨lt⟩
  clear lt f0' f1'
  have kQ := Lib.hid (fun w (p : w7.Plus w) => kK.out w)
  clear kK kA kB
  cases e2 with
  | true =>
    obtain rfl := hF (.inl rfl)
    clear hF hG kQ
    go_wp2_with (first
      | (refine wpList_store_O 62 _ _ rfl rfl rfl 2 0 [nI 0, nI 0, nI 0, .slice none 0 0, .slice none 0 0, .slice none 0 0] [nI 0, nI 0, nI 0, .slice none 0 0, .slice none 0 0, .slice none 0 0] (Lib.hid (Own.atP O7.out _ (by (repeat (first | exact Plus.refl _ | apply Plus.plus | apply Plus.alloc | apply Plus.drew))))).out rfl rfl rfl (by simp) rfl (by kernel_rfl) rfl ?_; intro wz OZ; replace OZ := Lib.hid OZ))
    exact bodyPost_ret (v := .tuple #[.agg #[nI 0, nI 0, nI 0, .slice none 0 0, .slice none 0 0, .slice none 0 0], nI 2]) (results_O2 Try.results42 _ 2 OZ.out rfl rfl Try.underlying62 rfl (by kernel_rfl)) rfl ⟨a0, rfl, msgA_none (OZ.out.drop.drop.drop)⟩
  | false =>
  by_cases hz : s2.size = 0
  case neg =>
    obtain rfl := hF (.inr hz)
    have hzi : (0 : Int) < (s2.size : Nat) := by omega
    have hzn : 0 < s2.size := by omega
    have hze : ¬ s2 = ByteArray.empty := fun e => hz (by rw [e]; rfl)
    clear hF hG kQ hz
    go_wp2_with (first
      | (refine wpList_store_O 62 _ _ rfl rfl rfl 2 0 [nI 0, nI 0, nI 0, .slice none 0 0, .slice none 0 0, .slice none 0 0] [nI 0, nI 0, nI 0, .slice none 0 0, .slice none 0 0, .slice none 0 0] (Lib.hid (Own.atP O7.out _ (by (repeat (first | exact Plus.refl _ | apply Plus.plus | apply Plus.alloc | apply Plus.drew))))).out rfl rfl rfl (by simp) rfl (by kernel_rfl) rfl ?_; intro wz OZ; replace OZ := Lib.hid OZ))
    exact bodyPost_ret (v := .tuple #[.agg #[nI 0, nI 0, nI 0, .slice none 0 0, .slice none 0 0, .slice none 0 0], nI 2]) (results_O2 Try.results42 _ 2 OZ.out rfl rfl Try.underlying62 rfl (by kernel_rfl)) rfl ⟨a0, rfl, msgA_none (OZ.out.drop.drop.drop)⟩
  case pos =>
  have hzi : ¬ (0 : Int) < (s2.size : Nat) := by omega
  have hG' := hG rfl hz
  have hze : s2 = ByteArray.empty := Octs.empty_of_size hz
  clear hF hG
  cases hok : okM (⟨k, t, 0, [], [], []⟩ : MsgR) with
  | false =>
    rw [hok, if_neg (by simp)] at hG'
    subst hG'
    rw [hok] at kQ
    clear hok
    go_wp2_with (first
      | (go_at_call 72; (with_reducible refine (kQ.out _ (by (repeat (first | exact Plus.refl _ | apply Plus.plus | apply Plus.alloc | apply Plus.drew)))).mono ?_); rintro e w' ⟨rfl, d2, rfl⟩)
      | (refine wpList_load_O 62 _ rfl rfl 1 0 [nI k, nI t, nI 0, .slice none 0 0, .slice none 0 0, .slice none 0 0] (Own.atP O7.out _ (by (repeat (first | exact Plus.refl _ | apply Plus.plus | apply Plus.alloc | apply Plus.drew)))) rfl rfl (by simp) rfl Try.underlying62 rfl (by kernel_rfl) ?_)
      | (refine wpList_store_O 62 _ _ rfl rfl rfl 2 0 [nI 0, nI 0, nI 0, .slice none 0 0, .slice none 0 0, .slice none 0 0] [nI 0, nI 0, nI 0, .slice none 0 0, .slice none 0 0, .slice none 0 0] (Lib.hid (Own.atP O7.out _ (by (repeat (first | exact Plus.refl _ | apply Plus.plus | apply Plus.alloc | apply Plus.drew))))).out rfl rfl rfl (by simp) rfl (by kernel_rfl) rfl ?_; intro wz OZ; replace OZ := Lib.hid OZ))
    exact bodyPost_ret (v := .tuple #[.agg #[nI 0, nI 0, nI 0, .slice none 0 0, .slice none 0 0, .slice none 0 0], nI 2]) (results_O2 Try.results42 _ 2 OZ.out rfl rfl Try.underlying62 rfl (by kernel_rfl)) rfl ⟨a0, rfl, msgA_none (OZ.out.drop.drop.drop)⟩
  | true =>
    rw [hok, if_pos rfl] at hG'
    subst hG'
    rw [hok] at kQ
    clear hok
    go_wp2_with (first
      | (go_at_call 72; (with_reducible refine (kQ.out _ (by (repeat (first | exact Plus.refl _ | apply Plus.plus | apply Plus.alloc | apply Plus.drew)))).mono ?_); rintro e w' ⟨rfl, d2, rfl⟩)
      | (refine wpList_load_O 62 _ rfl rfl 1 0 [nI k, nI t, nI 0, .slice none 0 0, .slice none 0 0, .slice none 0 0] (Own.atP O7.out _ (by (repeat (first | exact Plus.refl _ | apply Plus.plus | apply Plus.alloc | apply Plus.drew)))) rfl rfl (by simp) rfl Try.underlying62 rfl (by kernel_rfl) ?_)
      | (refine wpList_store_O 62 _ _ rfl rfl rfl 2 0 [nI k, nI t, nI 0, .slice none 0 0, .slice none 0 0, .slice none 0 0] [nI k, nI t, nI 0, .slice none 0 0, .slice none 0 0, .slice none 0 0] (Lib.hid (Own.atP O7.out _ (by (repeat (first | exact Plus.refl _ | apply Plus.plus | apply Plus.alloc | apply Plus.drew))))).out rfl rfl rfl (by simp) rfl (by kernel_rfl) rfl ?_; intro wz OZ; replace OZ := Lib.hid OZ))
    exact bodyPost_ret (v := .tuple #[.agg #[nI k, nI t, nI 0, .slice none 0 0, .slice none 0 0, .slice none 0 0], nI 0]) (results_O2 Try.results42 _ 2 OZ.out rfl rfl Try.underlying62 rfl (by kernel_rfl)) rfl ⟨a0, rfl, msgA_none (OZ.out.drop.drop.drop)⟩
theorem refDecCore_0 {W wx : World} {l : List Asn} (O : Own W wx l) (s : ByteArray) (hs : s.size ≤ 281474976710656) (k : Int) (s1 : ByteArray) (e1 : Bool) (h1 : Octs.rInt s false = (k, s1, e1)) (m1 : (k == 1) = false) (m4 : (k == 4) = false) (m7 : (k == 7) = false) (m12 : (k == 12) = false) (kA : ∀ w, Calls Try.prog 73 #[nI k] w fun e w' => e = .returned (.bool false) ∧ w.Plus w') (kB : ∀ w, Calls Try.prog 74 #[nI k] w fun e w' => e = .returned (.bool false) ∧ w.Plus w') : Calls Try.prog 42 #[.string s] wx (DecPost W l (finM (⟨k, 0, 0, [], [], []⟩ : MsgR) s1 e1)) := by
  have v0 : inv (s, false) := by intro h; cases h
  have z1 := Octs.rInt_size s false
  have v1 := rInt_inv2 s false v0
  rw [h1] at z1 v1
  simp only at z1 v1
  have k1 := fun w N l (O : Own W w (Octs.rdA N s false :: l)) => Octs.refRdInt_O O hs v0
  rw [h1] at k1
  simp only at k1
  replace k1 := Lib.hid k1
  have kK := Lib.hid (fun (w : World) => (show Calls Try.prog 72 #[.agg #[nI k, nI 0, nI 0, .slice none 0 0, .slice none 0 0, .slice none 0 0]] w fun e w' => e = .returned (.bool (okM (⟨k, 0, 0, [], [], []⟩ : MsgR))) ∧ w.Plus w' from refMay_any (⟨k, 0, 0, [], [], []⟩ : MsgR) a0 w ⟨RowsAt.zero _ _ _ _, RowsAt.zero _ _ _ _, RowsAt.zero _ _ _ _⟩))
  obtain ⟨D, hD⟩ : ∃ D, D = finM (⟨k, 0, 0, [], [], []⟩ : MsgR) s1 e1 := ⟨_, rfl⟩
  rw [← hD]
  have hF0 : Octs.rDone s1 e1 = 2 → D = (msZ, 2) := fun p => by rw [hD]; exact finM_bad _ _ _ p
  have hG0 : Octs.rDone s1 e1 = 0 → D = if okM (⟨k, 0, 0, [], [], []⟩ : MsgR) then ((⟨k, 0, 0, [], [], []⟩ : MsgR), 0) else (msZ, 2) := fun p => by rw [hD]; exact finM_good _ _ _ p
  clear hD
  have O0 := O.newCells [nI 0, nI 0, nI 0, .slice none 0 0, .slice none 0 0, .slice none 0 0] 62
  obtain ⟨w0, hw0⟩ : ∃ q, wx.alloc (.cells #[nI 0, nI 0, nI 0, .slice none 0 0, .slice none 0 0, .slice none 0 0] 62) = q := ⟨_, rfl⟩
  rw [hw0] at O0
  replace O0 := Lib.hid O0
  replace hw0 := Lib.hid hw0
  clear O h1
  have hF : (e1 = true ∨ s1.size ≠ 0) → D = (msZ, 2) := fun p => hF0 (by
    unfold Octs.rDone
    rw [if_pos (p.imp id (fun h e => h (by rw [e]; rfl)))])
  have hG : e1 = false → s1.size = 0 → D = if okM (⟨k, 0, 0, [], [], []⟩ : MsgR) then ((⟨k, 0, 0, [], [], []⟩ : MsgR), 0) else (msZ, 2) := fun p q => hG0 (by
    unfold Octs.rDone
    rw [if_neg (by rw [p, Octs.empty_of_size q]; simp)])
  clear hF0 hG0
  replace kA := Lib.hid kA
  replace kB := Lib.hid kB
  go_enter Try.func42, Try.ntmps42
  go_upto_region 1 with fail
  rw [hw0.out]
  clear hw0
  generalize wx.heap.size = R0 at *
  go_upto_region 2 with fail
  have O1 := Own.newRd O0.out s 37
  obtain ⟨w1, hw1⟩ : ∃ q, w0.alloc (.cells #[.string s, .bool false] 37) = q := ⟨_, rfl⟩
  rw [hw1] at O1
  rw [hw1]
  clear hw1 O0
  generalize w0.heap.size = N at *
  have j1 := Lib.hid (k1.out _ _ _ O1)
  clear k1 O1
  go_upto_region 3 with (go_at_call 56; (with_reducible refine j1.out.mono ?_); clear j1; rintro e w2 ⟨rfl, O2⟩)
  have O3 := (O2.newCells [nI k, nI 0, nI 0, .slice none 0 0, .slice none 0 0, .slice none 0 0] 62).rot1
  obtain ⟨w3, hw3⟩ : ∃ q, w2.alloc (.cells #[nI k, nI 0, nI 0, .slice none 0 0, .slice none 0 0, .slice none 0 0] 62) = q := ⟨_, rfl⟩
  rw [hw3] at O3
  rw [hw3]
  clear hw3 O2
  generalize w2.heap.size = C at *
  have x0 := (Own.cells 1 O3 rfl).2.1 0 (by simp)
  simp only [List.getElem?_cons_zero] at x0
  haveI : InW C w3 := ⟨(Own.cells 1 O3 rfl).1⟩
  replace O3 := Lib.hid O3
  go_upto_region 15 with (first
    | (go_at_call 73; (with_reducible refine (kA.out _).mono ?_); rintro e w' ⟨rfl, eA, rfl⟩)
    | (go_at_call 74; (with_reducible refine (kB.out _).mono ?_); rintro e w' ⟨rfl, eB, rfl⟩))
  clear x0
  obtain ⟨lt, c0', c1', f0', f1'⟩ := Octs.Own.rd 0 O3.out rfl
  haveI : InW N w3 := ⟨lt⟩
  clear lt f0' f1'
  have kQ := Lib.hid (fun w (p : w3.Plus w) => kK.out w)
  clear kK kA kB
  cases e1 with
  | true =>
    obtain rfl := hF (.inl rfl)
    clear hF hG kQ
    go_wp2_with (first
      | (refine wpList_store_O 62 _ _ rfl rfl rfl 2 0 [nI 0, nI 0, nI 0, .slice none 0 0, .slice none 0 0, .slice none 0 0] [nI 0, nI 0, nI 0, .slice none 0 0, .slice none 0 0, .slice none 0 0] (Lib.hid (Own.atP O3.out _ (by (repeat (first | exact Plus.refl _ | apply Plus.plus | apply Plus.alloc | apply Plus.drew))))).out rfl rfl rfl (by simp) rfl (by kernel_rfl) rfl ?_; intro wz OZ; replace OZ := Lib.hid OZ))
    exact bodyPost_ret (v := .tuple #[.agg #[nI 0, nI 0, nI 0, .slice none 0 0, .slice none 0 0, .slice none 0 0], nI 2]) (results_O2 Try.results42 _ 2 OZ.out rfl rfl Try.underlying62 rfl (by kernel_rfl)) rfl ⟨a0, rfl, msgA_none (OZ.out.drop.drop.drop)⟩
  | false =>
  by_cases hz : s1.size = 0
  case neg =>
    obtain rfl := hF (.inr hz)
    have hzi : (0 : Int) < (s1.size : Nat) := by omega
    have hzn : 0 < s1.size := by omega
    have hze : ¬ s1 = ByteArray.empty := fun e => hz (by rw [e]; rfl)
    clear hF hG kQ hz
    go_wp2_with (first
      | (refine wpList_store_O 62 _ _ rfl rfl rfl 2 0 [nI 0, nI 0, nI 0, .slice none 0 0, .slice none 0 0, .slice none 0 0] [nI 0, nI 0, nI 0, .slice none 0 0, .slice none 0 0, .slice none 0 0] (Lib.hid (Own.atP O3.out _ (by (repeat (first | exact Plus.refl _ | apply Plus.plus | apply Plus.alloc | apply Plus.drew))))).out rfl rfl rfl (by simp) rfl (by kernel_rfl) rfl ?_; intro wz OZ; replace OZ := Lib.hid OZ))
    exact bodyPost_ret (v := .tuple #[.agg #[nI 0, nI 0, nI 0, .slice none 0 0, .slice none 0 0, .slice none 0 0], nI 2]) (results_O2 Try.results42 _ 2 OZ.out rfl rfl Try.underlying62 rfl (by kernel_rfl)) rfl ⟨a0, rfl, msgA_none (OZ.out.drop.drop.drop)⟩
  case pos =>
  have hzi : ¬ (0 : Int) < (s1.size : Nat) := by omega
  have hG' := hG rfl hz
  have hze : s1 = ByteArray.empty := Octs.empty_of_size hz
  clear hF hG
  cases hok : okM (⟨k, 0, 0, [], [], []⟩ : MsgR) with
  | false =>
    rw [hok, if_neg (by simp)] at hG'
    subst hG'
    rw [hok] at kQ
    clear hok
    go_wp2_with (first
      | (go_at_call 72; (with_reducible refine (kQ.out _ (by (repeat (first | exact Plus.refl _ | apply Plus.plus | apply Plus.alloc | apply Plus.drew)))).mono ?_); rintro e w' ⟨rfl, d2, rfl⟩)
      | (refine wpList_load_O 62 _ rfl rfl 1 0 [nI k, nI 0, nI 0, .slice none 0 0, .slice none 0 0, .slice none 0 0] (Own.atP O3.out _ (by (repeat (first | exact Plus.refl _ | apply Plus.plus | apply Plus.alloc | apply Plus.drew)))) rfl rfl (by simp) rfl Try.underlying62 rfl (by kernel_rfl) ?_)
      | (refine wpList_store_O 62 _ _ rfl rfl rfl 2 0 [nI 0, nI 0, nI 0, .slice none 0 0, .slice none 0 0, .slice none 0 0] [nI 0, nI 0, nI 0, .slice none 0 0, .slice none 0 0, .slice none 0 0] (Lib.hid (Own.atP O3.out _ (by (repeat (first | exact Plus.refl _ | apply Plus.plus | apply Plus.alloc | apply Plus.drew))))).out rfl rfl rfl (by simp) rfl (by kernel_rfl) rfl ?_; intro wz OZ; replace OZ := Lib.hid OZ))
    exact bodyPost_ret (v := .tuple #[.agg #[nI 0, nI 0, nI 0, .slice none 0 0, .slice none 0 0, .slice none 0 0], nI 2]) (results_O2 Try.results42 _ 2 OZ.out rfl rfl Try.underlying62 rfl (by kernel_rfl)) rfl ⟨a0, rfl, msgA_none (OZ.out.drop.drop.drop)⟩
  | true =>
    rw [hok, if_pos rfl] at hG'
    subst hG'
    rw [hok] at kQ
    clear hok
    go_wp2_with (first
      | (go_at_call 72; (with_reducible refine (kQ.out _ (by (repeat (first | exact Plus.refl _ | apply Plus.plus | apply Plus.alloc | apply Plus.drew)))).mono ?_); rintro e w' ⟨rfl, d2, rfl⟩)
      | (refine wpList_load_O 62 _ rfl rfl 1 0 [nI k, nI 0, nI 0, .slice none 0 0, .slice none 0 0, .slice none 0 0] (Own.atP O3.out _ (by (repeat (first | exact Plus.refl _ | apply Plus.plus | apply Plus.alloc | apply Plus.drew)))) rfl rfl (by simp) rfl Try.underlying62 rfl (by kernel_rfl) ?_)
      | (refine wpList_store_O 62 _ _ rfl rfl rfl 2 0 [nI k, nI 0, nI 0, .slice none 0 0, .slice none 0 0, .slice none 0 0] [nI k, nI 0, nI 0, .slice none 0 0, .slice none 0 0, .slice none 0 0] (Lib.hid (Own.atP O3.out _ (by (repeat (first | exact Plus.refl _ | apply Plus.plus | apply Plus.alloc | apply Plus.drew))))).out rfl rfl rfl (by simp) rfl (by kernel_rfl) rfl ?_; intro wz OZ; replace OZ := Lib.hid OZ))
    exact bodyPost_ret (v := .tuple #[.agg #[nI k, nI 0, nI 0, .slice none 0 0, .slice none 0 0, .slice none 0 0], nI 0]) (results_O2 Try.results42 _ 2 OZ.out rfl rfl Try.underlying62 rfl (by kernel_rfl)) rfl ⟨a0, rfl, msgA_none (OZ.out.drop.drop.drop)⟩
end Go.Proofs.Ytjfjecjigakdnaa
-- CodD5
/- codec: the reference's Decode by shapes: walks. -/
set_option linter.unusedSimpArgs false
set_option linter.unusedVariables false
namespace Go.Proofs.Ytjfjecjigakdnaa
open Go.RowKit Octs
set_option maxHeartbeats 2000000
set_option maxRecDepth 100000
theorem refDecCore_4 {W wx : World} {l : List Asn} (O : Own W wx l) (s : ByteArray) (hs : s.size ≤ 281474976710656) (k t : Int) (xs : List IdR) (s1 s2 s3 : ByteArray) (e1 e2 e3 : Bool) (h1 : Octs.rInt s false = (k, s1, e1)) (h2 : Octs.rInt s1 e1 = (t, s2, e2)) (h3 : readL tkI s2 e2 1024 = (xs, s3, e3)) (m1 : (k == 1) = false) (m4 : (k == 4) = true) (kA : ∀ w, Calls Try.prog 73 #[nI k] w fun e w' => e = .returned (.bool true) ∧ w.Plus w') (kB : ∀ w, Calls Try.prog 74 #[nI k] w fun e w' => e = .returned (.bool false) ∧ w.Plus w') : Calls Try.prog 42 #[.string s] wx (DecPost W l (finM (⟨k, t, 0, [], [], xs⟩ : MsgR) s3 e3)) := by
  have v0 : inv (s, false) := by intro h; cases h
  have z1 := Octs.rInt_size s false
  have v1 := rInt_inv2 s false v0
  rw [h1] at z1 v1
  simp only at z1 v1
  have k1 := fun w N l (O : Own W w (Octs.rdA N s false :: l)) => Octs.refRdInt_O O hs v0
  rw [h1] at k1
  simp only at k1
  replace k1 := Lib.hid k1
  have z2 := Octs.rInt_size s1 e1
  have v2 := rInt_inv2 s1 e1 v1
  rw [h2] at z2 v2
  simp only at z2 v2
  have k2 := fun w N l (O : Own W w (Octs.rdA N s1 e1 :: l)) => Octs.refRdInt_O O (by omega) v1
  rw [h2] at k2
  simp only at k2
  replace k2 := Lib.hid k2
  have k3 := fun w N l (O : Own W w (Octs.rdA N s2 e2 :: l)) => refListI_O O (by omega) v2 1024 (by decide)
  rw [h3] at k3
  simp only at k3
  replace k3 := Lib.hid k3
  have kK := Lib.hid (fun (w : World) (Al : Option Addr) (cl : Nat) (h : RowsAt w Al 3 xs.length (rowFI xs)) => (show Calls Try.prog 72 #[.agg #[nI k, nI t, nI 0, .slice none 0 0, .slice none 0 0, .slice Al xs.length cl]] w fun e w' => e = .returned (.bool (okM (⟨k, t, 0, [], [], xs⟩ : MsgR))) ∧ w.Plus w' from refMay_any (⟨k, t, 0, [], [], xs⟩ : MsgR) ⟨none, none, Al, 0, 0, cl⟩ w ⟨RowsAt.zero _ _ _ _, RowsAt.zero _ _ _ _, h⟩))
  obtain ⟨D, hD⟩ : ∃ D, D = finM (⟨k, t, 0, [], [], xs⟩ : MsgR) s3 e3 := ⟨_, rfl⟩
  rw [← hD]
  have hF0 : Octs.rDone s3 e3 = 2 → D = (msZ, 2) := fun p => by rw [hD]; exact finM_bad _ _ _ p
  have hG0 : Octs.rDone s3 e3 = 0 → D = if okM (⟨k, t, 0, [], [], xs⟩ : MsgR) then ((⟨k, t, 0, [], [], xs⟩ : MsgR), 0) else (msZ, 2) := fun p => by rw [hD]; exact finM_good _ _ _ p
  clear hD
  have O0 := O.newCells [nI 0, nI 0, nI 0, .slice none 0 0, .slice none 0 0, .slice none 0 0] 62
  obtain ⟨w0, hw0⟩ : ∃ q, wx.alloc (.cells #[nI 0, nI 0, nI 0, .slice none 0 0, .slice none 0 0, .slice none 0 0] 62) = q := ⟨_, rfl⟩
  rw [hw0] at O0
  replace O0 := Lib.hid O0
  replace hw0 := Lib.hid hw0
  clear O h1 h2 h3
  have hF : (e3 = true ∨ s3.size ≠ 0) → D = (msZ, 2) := fun p => hF0 (by
    unfold Octs.rDone
    rw [if_pos (p.imp id (fun h e => h (by rw [e]; rfl)))])
  have hG : e3 = false → s3.size = 0 → D = if okM (⟨k, t, 0, [], [], xs⟩ : MsgR) then ((⟨k, t, 0, [], [], xs⟩ : MsgR), 0) else (msZ, 2) := fun p q => hG0 (by
    unfold Octs.rDone
    rw [if_neg (by rw [p, Octs.empty_of_size q]; simp)])
  clear hF0 hG0
  replace kA := Lib.hid kA
  replace kB := Lib.hid kB
  go_enter Try.func42, Try.ntmps42
  go_upto_region 1 with fail
  rw [hw0.out]
  clear hw0
  generalize wx.heap.size = R0 at *
  go_upto_region 2 with fail
  have O1 := Own.newRd O0.out s 37
  obtain ⟨w1, hw1⟩ : ∃ q, w0.alloc (.cells #[.string s, .bool false] 37) = q := ⟨_, rfl⟩
  rw [hw1] at O1
  rw [hw1]
  clear hw1 O0
  generalize w0.heap.size = N at *
  have j1 := Lib.hid (k1.out _ _ _ O1)
  clear k1 O1
  go_upto_region 3 with (go_at_call 56; (with_reducible refine j1.out.mono ?_); clear j1; rintro e w2 ⟨rfl, O2⟩)
  have O3 := (O2.newCells [nI k, nI 0, nI 0, .slice none 0 0, .slice none 0 0, .slice none 0 0] 62).rot1
  obtain ⟨w3, hw3⟩ : ∃ q, w2.alloc (.cells #[nI k, nI 0, nI 0, .slice none 0 0, .slice none 0 0, .slice none 0 0] 62) = q := ⟨_, rfl⟩
  rw [hw3] at O3
  rw [hw3]
  clear hw3 O2
  generalize w2.heap.size = C at *
  have x0 := (Own.cells 1 O3 rfl).2.1 0 (by simp)
  simp only [List.getElem?_cons_zero] at x0
  haveI : InW C w3 := ⟨(Own.cells 1 O3 rfl).1⟩
  replace O3 := Lib.hid O3
  go_upto_region 4 with (first
    | (go_at_call 73; (with_reducible refine (kA.out _).mono ?_); rintro e w' ⟨rfl, eA, rfl⟩)
    | (go_at_call 74; (with_reducible refine (kB.out _).mono ?_); rintro e w' ⟨rfl, eB, rfl⟩))
  go_upto_region 5 with (first
    | (go_at_call 56; (with_reducible refine (k2.out _ _ _ (Own.atP O3.out _ (by (repeat (first | exact Plus.refl _ | apply Plus.plus | apply Plus.alloc | apply Plus.drew))))).mono ?_); clear k2 x0; rintro e w6 ⟨rfl, O6⟩; replace O6 := Lib.hid O6)
    | (refine wpList_store_O 3 _ _ rfl rfl rfl 1 1 [nI t] [nI k, nI t, nI 0, .slice none 0 0, .slice none 0 0, .slice none 0 0] O6.out rfl rfl rfl (by simp) rfl (by kernel_rfl) rfl ?_; intro w7 O7; replace O7 := Lib.hid O7))
  clear O3 O6
  have x0 := (Own.cells 1 O7.out rfl).2.1 0 (by simp)
  simp only [List.getElem?_cons_zero] at x0
  haveI : InW C w7 := ⟨(Own.cells 1 O7.out rfl).1⟩
  go_upto_region 11 with (first
    | (go_at_call 73; (with_reducible refine (kA.out _).mono ?_); rintro e w' ⟨rfl, eA, rfl⟩)
    | (go_at_call 74; (with_reducible refine (kB.out _).mono ?_); rintro e w' ⟨rfl, eB, rfl⟩))
  go_upto_region 15 with (first
    | (go_at_call 36; (with_reducible refine (k3.out _ _ _ (Own.atP O7.out _ (by (repeat (first | exact Plus.refl _ | apply Plus.plus | apply Plus.alloc | apply Plus.drew))))).mono ?_); clear k3 x0; rintro e w8 ⟨Al, cl, rfl, O8⟩; replace O8 := Lib.hid O8)
    | (refine wpList_store_O 57 _ _ rfl rfl rfl 2 5 [.slice Al xs.length cl] [nI k, nI t, nI 0, .slice none 0 0, .slice none 0 0, .slice Al xs.length cl] O8.out rfl rfl rfl (by simp) rfl (by kernel_rfl) rfl ?_; intro w9 O9; replace O9 := Lib.hid O9))
  clear O7 O8
  obtain ⟨lt, c0', c1', f0', f1'⟩ := Octs.Own.rd 1 O9.out rfl
  haveI : InW N w9 := ⟨lt⟩
  clear lt f0' f1'
  have kQ := Lib.hid (fun w (p : w9.Plus w) => kK.out w Al cl (slRowsI rfl (Own.sl 0 (Own.atP O9.out w p) rfl)))
  clear kK kA kB
  cases e3 with
  | true =>
    obtain rfl := hF (.inl rfl)
    clear hF hG kQ
    go_wp2_with (first
      | (refine wpList_store_O 62 _ _ rfl rfl rfl 3 0 [nI 0, nI 0, nI 0, .slice none 0 0, .slice none 0 0, .slice none 0 0] [nI 0, nI 0, nI 0, .slice none 0 0, .slice none 0 0, .slice none 0 0] (Lib.hid (Own.atP O9.out _ (by (repeat (first | exact Plus.refl _ | apply Plus.plus | apply Plus.alloc | apply Plus.drew))))).out rfl rfl rfl (by simp) rfl (by kernel_rfl) rfl ?_; intro wz OZ; replace OZ := Lib.hid OZ))
    exact bodyPost_ret (v := .tuple #[.agg #[nI 0, nI 0, nI 0, .slice none 0 0, .slice none 0 0, .slice none 0 0], nI 2]) (results_O2 Try.results42 _ 3 OZ.out rfl rfl Try.underlying62 rfl (by kernel_rfl)) rfl ⟨a0, rfl, msgA_none (OZ.out.drop.drop.drop.drop)⟩
  | false =>
  by_cases hz : s3.size = 0
  case neg =>
    obtain rfl := hF (.inr hz)
    have hzi : (0 : Int) < (s3.size : Nat) := by omega
    have hzn : 0 < s3.size := by omega
    have hze : ¬ s3 = ByteArray.empty := fun e => hz (by rw [e]; rfl)
    clear hF hG kQ hz
    go_wp2_with (first
      | (refine wpList_store_O 62 _ _ rfl rfl rfl 3 0 [nI 0, nI 0, nI 0, .slice none 0 0, .slice none 0 0, .slice none 0 0] [nI 0, nI 0, nI 0, .slice none 0 0, .slice none 0 0, .slice none 0 0] (Lib.hid (Own.atP O9.out _ (by (repeat (first | exact Plus.refl _ | apply Plus.plus | apply Plus.alloc | apply Plus.drew))))).out rfl rfl rfl (by simp) rfl (by kernel_rfl) rfl ?_; intro wz OZ; replace OZ := Lib.hid OZ))
    exact bodyPost_ret (v := .tuple #[.agg #[nI 0, nI 0, nI 0, .slice none 0 0, .slice none 0 0, .slice none 0 0], nI 2]) (results_O2 Try.results42 _ 3 OZ.out rfl rfl Try.underlying62 rfl (by kernel_rfl)) rfl ⟨a0, rfl, msgA_none (OZ.out.drop.drop.drop.drop)⟩
  case pos =>
  have hzi : ¬ (0 : Int) < (s3.size : Nat) := by omega
  have hG' := hG rfl hz
  have hze : s3 = ByteArray.empty := Octs.empty_of_size hz
  clear hF hG
  cases hok : okM (⟨k, t, 0, [], [], xs⟩ : MsgR) with
  | false =>
    rw [hok, if_neg (by simp)] at hG'
    subst hG'
    rw [hok] at kQ
    clear hok
    go_wp2_with (first
      | (go_at_call 72; (with_reducible refine (kQ.out _ (by (repeat (first | exact Plus.refl _ | apply Plus.plus | apply Plus.alloc | apply Plus.drew)))).mono ?_); rintro e w' ⟨rfl, d2, rfl⟩)
      | (refine wpList_load_O 62 _ rfl rfl 2 0 [nI k, nI t, nI 0, .slice none 0 0, .slice none 0 0, .slice Al xs.length cl] (Own.atP O9.out _ (by (repeat (first | exact Plus.refl _ | apply Plus.plus | apply Plus.alloc | apply Plus.drew)))) rfl rfl (by simp) rfl Try.underlying62 rfl (by kernel_rfl) ?_)
      | (refine wpList_store_O 62 _ _ rfl rfl rfl 3 0 [nI 0, nI 0, nI 0, .slice none 0 0, .slice none 0 0, .slice none 0 0] [nI 0, nI 0, nI 0, .slice none 0 0, .slice none 0 0, .slice none 0 0] (Lib.hid (Own.atP O9.out _ (by (repeat (first | exact Plus.refl _ | apply Plus.plus | apply Plus.alloc | apply Plus.drew))))).out rfl rfl rfl (by simp) rfl (by kernel_rfl) rfl ?_; intro wz OZ; replace OZ := Lib.hid OZ))
    exact bodyPost_ret (v := .tuple #[.agg #[nI 0, nI 0, nI 0, .slice none 0 0, .slice none 0 0, .slice none 0 0], nI 2]) (results_O2 Try.results42 _ 3 OZ.out rfl rfl Try.underlying62 rfl (by kernel_rfl)) rfl ⟨a0, rfl, msgA_none (OZ.out.drop.drop.drop.drop)⟩
  | true =>
    rw [hok, if_pos rfl] at hG'
    subst hG'
    rw [hok] at kQ
    clear hok
    go_wp2_with (first
      | (go_at_call 72; (with_reducible refine (kQ.out _ (by (repeat (first | exact Plus.refl _ | apply Plus.plus | apply Plus.alloc | apply Plus.drew)))).mono ?_); rintro e w' ⟨rfl, d2, rfl⟩)
      | (refine wpList_load_O 62 _ rfl rfl 2 0 [nI k, nI t, nI 0, .slice none 0 0, .slice none 0 0, .slice Al xs.length cl] (Own.atP O9.out _ (by (repeat (first | exact Plus.refl _ | apply Plus.plus | apply Plus.alloc | apply Plus.drew)))) rfl rfl (by simp) rfl Try.underlying62 rfl (by kernel_rfl) ?_)
      | (refine wpList_store_O 62 _ _ rfl rfl rfl 3 0 [nI k, nI t, nI 0, .slice none 0 0, .slice none 0 0, .slice Al xs.length cl] [nI k, nI t, nI 0, .slice none 0 0, .slice none 0 0, .slice Al xs.length cl] (Lib.hid (Own.atP O9.out _ (by (repeat (first | exact Plus.refl _ | apply Plus.plus | apply Plus.alloc | apply Plus.drew))))).out rfl rfl rfl (by simp) rfl (by kernel_rfl) rfl ?_; intro wz OZ; replace OZ := Lib.hid OZ))
    exact bodyPost_ret (v := .tuple #[.agg #[nI k, nI t, nI 0, .slice none 0 0, .slice none 0 0, .slice Al xs.length cl], nI 0]) (results_O2 Try.results42 _ 3 OZ.out rfl rfl Try.underlying62 rfl (by kernel_rfl)) rfl ⟨⟨none, none, Al, 0, 0, cl⟩, rfl, Own.nilSl (Own.nilSl (OZ.out.rot1.drop.rot1.drop.rot1.drop) 11) 16⟩
theorem refDecCore_7 {W wx : World} {l : List Asn} (O : Own W wx l) (s : ByteArray) (hs : s.size ≤ 281474976710656) (k n : Int) (xs : List BdR) (s1 s2 s3 : ByteArray) (e1 e2 e3 : Bool) (h1 : Octs.rInt s false = (k, s1, e1)) (h2 : Octs.rInt s1 e1 = (n, s2, e2)) (h3 : readL tkB s2 e2 1024 = (xs, s3, e3)) (m1 : (k == 1) = false) (m4 : (k == 4) = false) (m7 : (k == 7) = true) (kA : ∀ w, Calls Try.prog 73 #[nI k] w fun e w' => e = .returned (.bool false) ∧ w.Plus w') (kB : ∀ w, Calls Try.prog 74 #[nI k] w fun e w' => e = .returned (.bool true) ∧ w.Plus w') : Calls Try.prog 42 #[.string s] wx (DecPost W l (finM (⟨k, 0, n, [], xs, []⟩ : MsgR) s3 e3)) := by
  have v0 : inv (s, false) := by intro h; cases h
  have z1 := Octs.rInt_size s false
  have v1 := rInt_inv2 s false v0
  rw [h1] at z1 v1
  simp only at z1 v1
  have k1 := fun w N l (O : Own W w (Octs.rdA N s false :: l)) => Octs.refRdInt_O O hs v0
  rw [h1] at k1
  simp only at k1
  replace k1 := Lib.hid k1
  have z2 := Octs.rInt_size s1 e1
  have v2 := rInt_inv2 s1 e1 v1
  rw [h2] at z2 v2
  simp only at z2 v2
  have k2 := fun w N l (O : Own W w (Octs.rdA N s1 e1 :: l)) => Octs.refRdInt_O O (by omega) v1
  rw [h2] at k2
  simp only at k2
  replace k2 := Lib.hid k2
  have k3 := fun w N l (O : Own W w (Octs.rdA N s2 e2 :: l)) => refListB_O O (by omega) v2 1024 (by decide)
  rw [h3] at k3
  simp only at k3
  replace k3 := Lib.hid k3
  have kK := Lib.hid (fun (w : World) (Al : Option Addr) (cl : Nat) (h : RowsAt w Al 11 xs.length (rowFB xs)) => (show Calls Try.prog 72 #[.agg #[nI k, nI 0, nI n, .slice none 0 0, .slice Al xs.length cl, .slice none 0 0]] w fun e w' => e = .returned (.bool (okM (⟨k, 0, n, [], xs, []⟩ : MsgR))) ∧ w.Plus w' from refMay_any (⟨k, 0, n, [], xs, []⟩ : MsgR) ⟨none, Al, none, 0, cl, 0⟩ w ⟨RowsAt.zero _ _ _ _, h, RowsAt.zero _ _ _ _⟩))
  obtain ⟨D, hD⟩ : ∃ D, D = finM (⟨k, 0, n, [], xs, []⟩ : MsgR) s3 e3 := ⟨_, rfl⟩
  rw [← hD]
  have hF0 : Octs.rDone s3 e3 = 2 → D = (msZ, 2) := fun p => by rw [hD]; exact finM_bad _ _ _ p
  have hG0 : Octs.rDone s3 e3 = 0 → D = if okM (⟨k, 0, n, [], xs, []⟩ : MsgR) then ((⟨k, 0, n, [], xs, []⟩ : MsgR), 0) else (msZ, 2) := fun p => by rw [hD]; exact finM_good _ _ _ p
  clear hD
  have O0 := O.newCells [nI 0, nI 0, nI 0, .slice none 0 0, .slice none 0 0, .slice none 0 0] 62
  obtain ⟨w0, hw0⟩ : ∃ q, wx.alloc (.cells #[nI 0, nI 0, nI 0, .slice none 0 0, .slice none 0 0, .slice none 0 0] 62) = q := ⟨_, rfl⟩
  rw [hw0] at O0
  replace O0 := Lib.hid O0
  replace hw0 := Lib.hid hw0
  clear O h1 h2 h3
  have hF : (e3 = true ∨ s3.size ≠ 0) → D = (msZ, 2) := fun p => hF0 (by
    unfold Octs.rDone
    rw [if_pos (p.imp id (fun h e => h (by rw [e]; rfl)))])
  have hG : e3 = false → s3.size = 0 → D = if okM (⟨k, 0, n, [], xs, []⟩ : MsgR) then ((⟨k, 0, n, [], xs, []⟩ : MsgR), 0) else (msZ, 2) := fun p q => hG0 (by
    unfold Octs.rDone
    rw [if_neg (by rw [p, Octs.empty_of_size q]; simp)])
  clear hF0 hG0
  replace kA := Lib.hid kA
  replace kB := Lib.hid kB
  go_enter Try.func42, Try.ntmps42
  go_upto_region 1 with fail
  rw [hw0.out]
  clear hw0
  generalize wx.heap.size = R0 at *
  go_upto_region 2 with fail
  have O1 := Own.newRd O0.out s 37
  obtain ⟨w1, hw1⟩ : ∃ q, w0.alloc (.cells #[.string s, .bool false] 37) = q := ⟨_, rfl⟩
  rw [hw1] at O1
  rw [hw1]
  clear hw1 O0
  generalize w0.heap.size = N at *
  have j1 := Lib.hid (k1.out _ _ _ O1)
  clear k1 O1
  go_upto_region 3 with (go_at_call 56; (with_reducible refine j1.out.mono ?_); clear j1; rintro e w2 ⟨rfl, O2⟩)
  have O3 := (O2.newCells [nI k, nI 0, nI 0, .slice none 0 0, .slice none 0 0, .slice none 0 0] 62).rot1
  obtain ⟨w3, hw3⟩ : ∃ q, w2.alloc (.cells #[nI k, nI 0, nI 0, .slice none 0 0, .slice none 0 0, .slice none 0 0] 62) = q := ⟨_, rfl⟩
  rw [hw3] at O3
  rw [hw3]
  clear hw3 O2
  generalize w2.heap.size = C at *
  have x0 := (Own.cells 1 O3 rfl).2.1 0 (by simp)
  simp only [List.getElem?_cons_zero] at x0
  haveI : InW C w3 := ⟨(Own.cells 1 O3 rfl).1⟩
  replace O3 := Lib.hid O3
  go_upto_region 6 with (first
    | (go_at_call 73; (with_reducible refine (kA.out _).mono ?_); rintro e w' ⟨rfl, eA, rfl⟩)
    | (go_at_call 74; (with_reducible refine (kB.out _).mono ?_); rintro e w' ⟨rfl, eB, rfl⟩))
  go_upto_region 7 with (first
    | (go_at_call 56; (with_reducible refine (k2.out _ _ _ (Own.atP O3.out _ (by (repeat (first | exact Plus.refl _ | apply Plus.plus | apply Plus.alloc | apply Plus.drew))))).mono ?_); clear k2 x0; rintro e w6 ⟨rfl, O6⟩; replace O6 := Lib.hid O6)
    | (refine wpList_store_O 3 _ _ rfl rfl rfl 1 2 [nI n] [nI k, nI 0, nI n, .slice none 0 0, .slice none 0 0, .slice none 0 0] O6.out rfl rfl rfl (by simp) rfl (by kernel_rfl) rfl ?_; intro w7 O7; replace O7 := Lib.hid O7))
  clear O3 O6
  have x0 := (Own.cells 1 O7.out rfl).2.1 0 (by simp)
  simp only [List.getElem?_cons_zero] at x0
  haveI : InW C w7 := ⟨(Own.cells 1 O7.out rfl).1⟩
  go_upto_region 14 with (first
    | (go_at_call 73; (with_reducible refine (kA.out _).mono ?_); rintro e w' ⟨rfl, eA, rfl⟩)
    | (go_at_call 74; (with_reducible refine (kB.out _).mono ?_); rintro e w' ⟨rfl, eB, rfl⟩))
  go_upto_region 15 with (first
    | (go_at_call 30; (with_reducible refine (k3.out _ _ _ (Own.atP O7.out _ (by (repeat (first | exact Plus.refl _ | apply Plus.plus | apply Plus.alloc | apply Plus.drew))))).mono ?_); clear k3 x0; rintro e w8 ⟨Al, cl, rfl, O8⟩; replace O8 := Lib.hid O8)
    | (refine wpList_store_O 46 _ _ rfl rfl rfl 2 4 [.slice Al xs.length cl] [nI k, nI 0, nI n, .slice none 0 0, .slice Al xs.length cl, .slice none 0 0] O8.out rfl rfl rfl (by simp) rfl (by kernel_rfl) rfl ?_; intro w9 O9; replace O9 := Lib.hid O9))
  clear O7 O8
  obtain ⟨lt, c0', c1', f0', f1'⟩ := Octs.Own.rd 1 O9.out rfl
  haveI : InW N w9 := ⟨lt⟩
  clear lt f0' f1'
  have kQ := Lib.hid (fun w (p : w9.Plus w) => kK.out w Al cl (slRowsB rfl (Own.sl 0 (Own.atP O9.out w p) rfl)))
  clear kK kA kB
  cases e3 with
  | true =>
    obtain rfl := hF (.inl rfl)
    clear hF hG kQ
    go_wp2_with (first
      | (refine wpList_store_O 62 _ _ rfl rfl rfl 3 0 [nI 0, nI 0, nI 0, .slice none 0 0, .slice none 0 0, .slice none 0 0] [nI 0, nI 0, nI 0, .slice none 0 0, .slice none 0 0, .slice none 0 0] (Lib.hid (Own.atP O9.out _ (by (repeat (first | exact Plus.refl _ | apply Plus.plus | apply Plus.alloc | apply Plus.drew))))).out rfl rfl rfl (by simp) rfl (by kernel_rfl) rfl ?_; intro wz OZ; replace OZ := Lib.hid OZ))
    exact bodyPost_ret (v := .tuple #[.agg #[nI 0, nI 0, nI 0, .slice none 0 0, .slice none 0 0, .slice none 0 0], nI 2]) (results_O2 Try.results42 _ 3 OZ.out rfl rfl Try.underlying62 rfl (by kernel_rfl)) rfl ⟨a0, rfl, msgA_none (OZ.out.drop.drop.drop.drop)⟩
  | false =>
  by_cases hz : s3.size = 0
  case neg =>
    obtain rfl := hF (.inr hz)
    have hzi : (0 : Int) < (s3.size : Nat) := by omega
    have hzn : 0 < s3.size := by omega
    have hze : ¬ s3 = ByteArray.empty := fun e => hz (by rw [e]; rfl)
    clear hF hG kQ hz
    go_wp2_with (first
      | (refine wpList_store_O 62 _ _ rfl rfl rfl 3 0 [nI 0, nI 0, nI 0, .slice none 0 0, .slice none 0 0, .slice none 0 0] [nI 0, nI 0, nI 0, .slice none 0 0, .slice none 0 0, .slice none 0 0] (Lib.hid (Own.atP O9.out _ (by (repeat (first | exact Plus.refl _ | apply Plus.plus | apply Plus.alloc | apply Plus.drew))))).out rfl rfl rfl (by simp) rfl (by kernel_rfl) rfl ?_; intro wz OZ; replace OZ := Lib.hid OZ))
    exact bodyPost_ret (v := .tuple #[.agg #[nI 0, nI 0, nI 0, .slice none 0 0, .slice none 0 0, .slice none 0 0], nI 2]) (results_O2 Try.results42 _ 3 OZ.out rfl rfl Try.underlying62 rfl (by kernel_rfl)) rfl ⟨a0, rfl, msgA_none (OZ.out.drop.drop.drop.drop)⟩
  case pos =>
  have hzi : ¬ (0 : Int) < (s3.size : Nat) := by omega
  have hG' := hG rfl hz
  have hze : s3 = ByteArray.empty := Octs.empty_of_size hz
  clear hF hG
  cases hok : okM (⟨k, 0, n, [], xs, []⟩ : MsgR) with
  | false =>
    rw [hok, if_neg (by simp)] at hG'
    subst hG'
    rw [hok] at kQ
    clear hok
    go_wp2_with (first
      | (go_at_call 72; (with_reducible refine (kQ.out _ (by (repeat (first | exact Plus.refl _ | apply Plus.plus | apply Plus.alloc | apply Plus.drew)))).mono ?_); rintro e w' ⟨rfl, d2, rfl⟩)
      | (refine wpList_load_O 62 _ rfl rfl 2 0 [nI k, nI 0, nI n, .slice none 0 0, .slice Al xs.length cl, .slice none 0 0] (Own.atP O9.out _ (by (repeat (first | exact Plus.refl _ | apply Plus.plus | apply Plus.alloc | apply Plus.drew)))) rfl rfl (by simp) rfl Try.underlying62 rfl (by kernel_rfl) ?_)
      | (refine wpList_store_O 62 _ _ rfl rfl rfl 3 0 [nI 0, nI 0, nI 0, .slice none 0 0, .slice none 0 0, .slice none 0 0] [nI 0, nI 0, nI 0, .slice none 0 0, .slice none 0 0, .slice none 0 0] (Lib.hid (Own.atP O9.out _ (by (repeat (first | exact Plus.refl _ | apply Plus.plus | apply Plus.alloc | apply Plus.drew))))).out rfl rfl rfl (by simp) rfl (by kernel_rfl) rfl ?_; intro wz OZ; replace OZ := Lib.hid OZ))
    exact bodyPost_ret (v := .tuple #[.agg #[nI 0, nI 0, nI 0, .slice none 0 0, .slice none 0 0, .slice none 0 0], nI 2]) (results_O2 Try.results42 _ 3 OZ.out rfl rfl Try.underlying62 rfl (by kernel_rfl)) rfl ⟨a0, rfl, msgA_none (OZ.out.drop.drop.drop.drop)⟩
  | true =>
    rw [hok, if_pos rfl] at hG'
    subst hG'
    rw [hok] at kQ
    clear hok
    go_wp2_with (first
      | (go_at_call 72; (with_reducible refine (kQ.out _ (by (repeat (first | exact Plus.refl _ | apply Plus.plus | apply Plus.alloc | apply Plus.drew)))).mono ?_); rintro e w' ⟨rfl, d2, rfl⟩)
      | (refine wpList_load_O 62 _ rfl rfl 2 0 [nI k, nI 0, nI n, .slice none 0 0, .slice Al xs.length cl, .slice none 0 0] (Own.atP O9.out _ (by (repeat (first | exact Plus.refl _ | apply Plus.plus | apply Plus.alloc | apply Plus.drew)))) rfl rfl (by simp) rfl Try.underlying62 rfl (by kernel_rfl) ?_)
      | (refine wpList_store_O 62 _ _ rfl rfl rfl 3 0 [nI k, nI 0, nI n, .slice none 0 0, .slice Al xs.length cl, .slice none 0 0] [nI k, nI 0, nI n, .slice none 0 0, .slice Al xs.length cl, .slice none 0 0] (Lib.hid (Own.atP O9.out _ (by (repeat (first | exact Plus.refl _ | apply Plus.plus | apply Plus.alloc | apply Plus.drew))))).out rfl rfl rfl (by simp) rfl (by kernel_rfl) rfl ?_; intro wz OZ; replace OZ := Lib.hid OZ))
    exact bodyPost_ret (v := .tuple #[.agg #[nI k, nI 0, nI n, .slice none 0 0, .slice Al xs.length cl, .slice none 0 0], nI 0]) (results_O2 Try.results42 _ 3 OZ.out rfl rfl Try.underlying62 rfl (by kernel_rfl)) rfl ⟨⟨none, Al, none, 0, cl, 0⟩, rfl, Own.nilSl (Own.rot1 (Own.nilSl (OZ.out.rot1.drop.rot1.drop.rot1.drop) 3)) 16⟩
end Go.Proofs.Ytjfjecjigakdnaa
-- CodD6
/- codec: the reference's Decode by shapes: walks. -/
set_option linter.unusedSimpArgs false
set_option linter.unusedVariables false
namespace Go.Proofs.Ytjfjecjigakdnaa
open Go.RowKit Octs
set_option maxHeartbeats 2000000
set_option maxRecDepth 100000
theorem refDecCore_8 {W wx : World} {l : List Asn} (O : Own W wx l) (s : ByteArray) (hs : s.size ≤ 281474976710656) (k n : Int) (s1 s2 : ByteArray) (e1 e2 : Bool) (h1 : Octs.rInt s false = (k, s1, e1)) (h2 : Octs.rInt s1 e1 = (n, s2, e2)) (m1 : (k == 1) = false) (m4 : (k == 4) = false) (m7 : (k == 7) = false) (m12 : (k == 12) = false) (kA : ∀ w, Calls Try.prog 73 #[nI k] w fun e w' => e = .returned (.bool false) ∧ w.Plus w') (kB : ∀ w, Calls Try.prog 74 #[nI k] w fun e w' => e = .returned (.bool true) ∧ w.Plus w') : Calls Try.prog 42 #[.string s] wx (DecPost W l (finM (⟨k, 0, n, [], [], []⟩ : MsgR) s2 e2)) := by
  have v0 : inv (s, false) := by intro h; cases h
  have z1 := Octs.rInt_size s false
  have v1 := rInt_inv2 s false v0
  rw [h1] at z1 v1
  simp only at z1 v1
  have k1 := fun w N l (O : Own W w (Octs.rdA N s false :: l)) => Octs.refRdInt_O O hs v0
  rw [h1] at k1
  simp only at k1
  replace k1 := Lib.hid k1
  have z2 := Octs.rInt_size s1 e1
  have v2 := rInt_inv2 s1 e1 v1
  rw [h2] at z2 v2
  simp only at z2 v2
  have k2 := fun w N l (O : Own W w (Octs.rdA N s1 e1 :: l)) => Octs.refRdInt_O O (by omega) v1
  rw [h2] at k2
  simp only at k2
  replace k2 := Lib.hid k2
  have kK := Lib.hid (fun (w : World) => (show Calls Try.prog 72 #[.agg #[nI k, nI 0, nI n, .slice none 0 0, .slice none 0 0, .slice none 0 0]] w fun e w' => e = .returned (.bool (okM (⟨k, 0, n, [], [], []⟩ : MsgR))) ∧ w.Plus w' from refMay_any (⟨k, 0, n, [], [], []⟩ : MsgR) a0 w ⟨RowsAt.zero _ _ _ _, RowsAt.zero _ _ _ _, RowsAt.zero _ _ _ _⟩))
  obtain ⟨D, hD⟩ : ∃ D, D = finM (⟨k, 0, n, [], [], []⟩ : MsgR) s2 e2 := ⟨_, rfl⟩
  rw [← hD]
  have hF0 : Octs.rDone s2 e2 = 2 → D = (msZ, 2) := fun p => by rw [hD]; exact finM_bad _ _ _ p
  have hG0 : Octs.rDone s2 e2 = 0 → D = if okM (⟨k, 0, n, [], [], []⟩ : MsgR) then ((⟨k, 0, n, [], [], []⟩ : MsgR), 0) else (msZ, 2) := fun p => by rw [hD]; exact finM_good _ _ _ p
  clear hD
  have O0 := O.newCells [nI 0, nI 0, nI 0, .slice none 0 0, .slice none 0 0, .slice none 0 0] 62
  obtain ⟨w0, hw0⟩ : ∃ q, wx.alloc (.cells #[nI 0, nI 0, nI 0, .slice none 0 0, .slice none 0 0, .slice none 0 0] 62) = q := ⟨_, rfl⟩
  rw [hw0] at O0
  replace O0 := Lib.hid O0
  replace hw0 := Lib.hid hw0
  clear O h1 h2
  have hF : (e2 = true ∨ s2.size ≠ 0) → D = (msZ, 2) := fun p => hF0 (by
    unfold Octs.rDone
    rw [if_pos (p.imp id (fun h e => h (by rw [e]; rfl)))])
  have hG : e2 = false → s2.size = 0 → D = if okM (⟨k, 0, n, [], [], []⟩ : MsgR) then ((⟨k, 0, n, [], [], []⟩ : MsgR), 0) else (msZ, 2) := fun p q => hG0 (by
    unfold Octs.rDone
    rw [if_neg (by rw [p, Octs.empty_of_size q]; simp)])
  clear hF0 hG0
  replace kA := Lib.hid kA
  replace kB := Lib.hid kB
  go_enter Try.func42, Try.ntmps42
  go_upto_region 1 with fail
  rw [hw0.out]
  clear hw0
  generalize wx.heap.size = R0 at *
  go_upto_region 2 with fail
  have O1 := Own.newRd O0.out s 37
  obtain ⟨w1, hw1⟩ : ∃ q, w0.alloc (.cells #[.string s, .bool false] 37) = q := ⟨_, rfl⟩
  rw [hw1] at O1
  rw [hw1]
  clear hw1 O0
  generalize w0.heap.size = N at *
  have j1 := Lib.hid (k1.out _ _ _ O1)
  clear k1 O1
  go_upto_region 3 with (go_at_call 56; (with_reducible refine j1.out.mono ?_); clear j1; rintro e w2 ⟨rfl, O2⟩)
  have O3 := (O2.newCells [nI k, nI 0, nI 0, .slice none 0 0, .slice none 0 0, .slice none 0 0] 62).rot1
  obtain ⟨w3, hw3⟩ : ∃ q, w2.alloc (.cells #[nI k, nI 0, nI 0, .slice none 0 0, .slice none 0 0, .slice none 0 0] 62) = q := ⟨_, rfl⟩
  rw [hw3] at O3
  rw [hw3]
  clear hw3 O2
  generalize w2.heap.size = C at *
  have x0 := (Own.cells 1 O3 rfl).2.1 0 (by simp)
  simp only [List.getElem?_cons_zero] at x0
  haveI : InW C w3 := ⟨(Own.cells 1 O3 rfl).1⟩
  replace O3 := Lib.hid O3
  go_upto_region 6 with (first
    | (go_at_call 73; (with_reducible refine (kA.out _).mono ?_); rintro e w' ⟨rfl, eA, rfl⟩)
    | (go_at_call 74; (with_reducible refine (kB.out _).mono ?_); rintro e w' ⟨rfl, eB, rfl⟩))
  go_upto_region 7 with (first
    | (go_at_call 56; (with_reducible refine (k2.out _ _ _ (Own.atP O3.out _ (by (repeat (first | exact Plus.refl _ | apply Plus.plus | apply Plus.alloc | apply Plus.drew))))).mono ?_); clear k2 x0; rintro e w6 ⟨rfl, O6⟩; replace O6 := Lib.hid O6)
    | (refine wpList_store_O 3 _ _ rfl rfl rfl 1 2 [nI n] [nI k, nI 0, nI n, .slice none 0 0, .slice none 0 0, .slice none 0 0] O6.out rfl rfl rfl (by simp) rfl (by kernel_rfl) rfl ?_; intro w7 O7; replace O7 := Lib.hid O7))
  clear O3 O6
  have x0 := (Own.cells 1 O7.out rfl).2.1 0 (by simp)
  simp only [List.getElem?_cons_zero] at x0
  haveI : InW C w7 := ⟨(Own.cells 1 O7.out rfl).1⟩
  go_upto_region 15 with (first
    | (go_at_call 73; (with_reducible refine (kA.out _).mono ?_); rintro e w' ⟨rfl, eA, rfl⟩)
    | (go_at_call 74; (with_reducible refine (kB.out _).mono ?_); rintro e w' ⟨rfl, eB, rfl⟩))
  clear x0
  obtain ⟨lt, c0', c1', f0', f1'⟩ := Octs.Own.rd 0 O7.out rfl
  haveI : InW N w7 := ⟨lt⟩
  clear lt f0' f1'
  have kQ := Lib.hid (fun w (p : w7.Plus w) => kK.out w)
  clear kK kA kB
  cases e2 with
  | true =>
    obtain rfl := hF (.inl rfl)
    clear hF hG kQ
    go_wp2_with (first
      | (refine wpList_store_O 62 _ _ rfl rfl rfl 2 0 [nI 0, nI 0, nI 0, .slice none 0 0, .slice none 0 0, .slice none 0 0] [nI 0, nI 0, nI 0, .slice none 0 0, .slice none 0 0, .slice none 0 0] (Lib.hid (Own.atP O7.out _ (by (repeat (first | exact Plus.refl _ | apply Plus.plus | apply Plus.alloc | apply Plus.drew))))).out rfl rfl rfl (by simp) rfl (by kernel_rfl) rfl ?_; intro wz OZ; replace OZ := Lib.hid OZ))
    exact bodyPost_ret (v := .tuple #[.agg #[nI 0, nI 0, nI 0, .slice none 0 0, .slice none 0 0, .slice none 0 0], nI 2]) (results_O2 Try.results42 _ 2 OZ.out rfl rfl Try.underlying62 rfl (by kernel_rfl)) rfl ⟨a0, rfl, msgA_none (OZ.out.drop.drop.drop)⟩
  | false =>
  by_cases hz : s2.size = 0
  case neg =>
    obtain rfl := hF (.inr hz)
    have hzi : (0 : Int) < (s2.size : Nat) := by omega
    have hzn : 0 < s2.size := by omega
    have hze : ¬ s2 = ByteArray.empty := fun e => hz (by rw [e]; rfl)
    clear hF hG kQ hz
    go_wp2_with (first
      | (refine wpList_store_O 62 _ _ rfl rfl rfl 2 0 [nI 0, nI 0, nI 0, .slice none 0 0, .slice none 0 0, .slice none 0 0] [nI 0, nI 0, nI 0, .slice none 0 0, .slice none 0 0, .slice none 0 0] (Lib.hid (Own.atP O7.out _ (by (repeat (first | exact Plus.refl _ | apply Plus.plus | apply Plus.alloc | apply Plus.drew))))).out rfl rfl rfl (by simp) rfl (by kernel_rfl) rfl ?_; intro wz OZ; replace OZ := Lib.hid OZ))
    exact bodyPost_ret (v := .tuple #[.agg #[nI 0, nI 0, nI 0, .slice none 0 0, .slice none 0 0, .slice none 0 0], nI 2]) (results_O2 Try.results42 _ 2 OZ.out rfl rfl Try.underlying62 rfl (by kernel_rfl)) rfl ⟨a0, rfl, msgA_none (OZ.out.drop.drop.drop)⟩
  case pos =>
  have hzi : ¬ (0 : Int) < (s2.size : Nat) := by omega
  have hG' := hG rfl hz
  have hze : s2 = ByteArray.empty := Octs.empty_of_size hz
  clear hF hG
  cases hok : okM (⟨k, 0, n, [], [], []⟩ : MsgR) with
  | false =>
    rw [hok, if_neg (by simp)] at hG'
    subst hG'
    rw [hok] at kQ
    clear hok
    go_wp2_with (first
      | (go_at_call 72; (with_reducible refine (kQ.out _ (by (repeat (first | exact Plus.refl _ | apply Plus.plus | apply Plus.alloc | apply Plus.drew)))).mono ?_); rintro e w' ⟨rfl, d2, rfl⟩)
      | (refine wpList_load_O 62 _ rfl rfl 1 0 [nI k, nI 0, nI n, .slice none 0 0, .slice none 0 0, .slice none 0 0] (Own.atP O7.out _ (by (repeat (first | exact Plus.refl _ | apply Plus.plus | apply Plus.alloc | apply Plus.drew)))) rfl rfl (by simp) rfl Try.underlying62 rfl (by kernel_rfl) ?_)
      | (refine wpList_store_O 62 _ _ rfl rfl rfl 2 0 [nI 0, nI 0, nI 0, .slice none 0 0, .slice none 0 0, .slice none 0 0] [nI 0, nI 0, nI 0, .slice none 0 0, .slice none 0 0, .slice none 0 0] (Lib.hid (Own.atP O7.out _ (by (repeat (first | exact Plus.refl _ | apply Plus.plus | apply Plus.alloc | apply Plus.drew))))).out rfl rfl rfl (by simp) rfl (by kernel_rfl) rfl ?_; intro wz OZ; replace OZ := Lib.hid OZ))
    exact bodyPost_ret (v := .tuple #[.agg #[nI 0, nI 0, nI 0, .slice none 0 0, .slice none 0 0, .slice none 0 0], nI 2]) (results_O2 Try.results42 _ 2 OZ.out rfl rfl Try.underlying62 rfl (by kernel_rfl)) rfl ⟨a0, rfl, msgA_none (OZ.out.drop.drop.drop)⟩
  | true =>
    rw [hok, if_pos rfl] at hG'
    subst hG'
    rw [hok] at kQ
    clear hok
    go_wp2_with (first
      | (go_at_call 72; (with_reducible refine (kQ.out _ (by (repeat (first | exact Plus.refl _ | apply Plus.plus | apply Plus.alloc | apply Plus.drew)))).mono ?_); rintro e w' ⟨rfl, d2, rfl⟩)
      | (refine wpList_load_O 62 _ rfl rfl 1 0 [nI k, nI 0, nI n, .slice none 0 0, .slice none 0 0, .slice none 0 0] (Own.atP O7.out _ (by (repeat (first | exact Plus.refl _ | apply Plus.plus | apply Plus.alloc | apply Plus.drew)))) rfl rfl (by simp) rfl Try.underlying62 rfl (by kernel_rfl) ?_)
      | (refine wpList_store_O 62 _ _ rfl rfl rfl 2 0 [nI k, nI 0, nI n, .slice none 0 0, .slice none 0 0, .slice none 0 0] [nI k, nI 0, nI n, .slice none 0 0, .slice none 0 0, .slice none 0 0] (Lib.hid (Own.atP O7.out _ (by (repeat (first | exact Plus.refl _ | apply Plus.plus | apply Plus.alloc | apply Plus.drew))))).out rfl rfl rfl (by simp) rfl (by kernel_rfl) rfl ?_; intro wz OZ; replace OZ := Lib.hid OZ))
    exact bodyPost_ret (v := .tuple #[.agg #[nI k, nI 0, nI n, .slice none 0 0, .slice none 0 0, .slice none 0 0], nI 0]) (results_O2 Try.results42 _ 2 OZ.out rfl rfl Try.underlying62 rfl (by kernel_rfl)) rfl ⟨a0, rfl, msgA_none (OZ.out.drop.drop.drop)⟩
theorem refDecCore_12 {W wx : World} {l : List Asn} (O : Own W wx l) (s : ByteArray) (hs : s.size ≤ 281474976710656) (k t : Int) (xs : List BdR) (s1 s2 s3 : ByteArray) (e1 e2 e3 : Bool) (h1 : Octs.rInt s false = (k, s1, e1)) (h2 : Octs.rInt s1 e1 = (t, s2, e2)) (h3 : readL tkB s2 e2 1024 = (xs, s3, e3)) (m1 : (k == 1) = false) (m4 : (k == 4) = false) (m7 : (k == 7) = false) (m12 : (k == 12) = true) (kA : ∀ w, Calls Try.prog 73 #[nI k] w fun e w' => e = .returned (.bool true) ∧ w.Plus w') (kB : ∀ w, Calls Try.prog 74 #[nI k] w fun e w' => e = .returned (.bool false) ∧ w.Plus w') : Calls Try.prog 42 #[.string s] wx (DecPost W l (finM (⟨k, t, 0, [], xs, []⟩ : MsgR) s3 e3)) := by
  have v0 : inv (s, false) := by intro h; cases h
  have z1 := Octs.rInt_size s false
  have v1 := rInt_inv2 s false v0
  rw [h1] at z1 v1
  simp only at z1 v1
  have k1 := fun w N l (O : Own W w (Octs.rdA N s false :: l)) => Octs.refRdInt_O O hs v0
  rw [h1] at k1
  simp only at k1
  replace k1 := Lib.hid k1
  have z2 := Octs.rInt_size s1 e1
  have v2 := rInt_inv2 s1 e1 v1
  rw [h2] at z2 v2
  simp only at z2 v2
  have k2 := fun w N l (O : Own W w (Octs.rdA N s1 e1 :: l)) => Octs.refRdInt_O O (by omega) v1
  rw [h2] at k2
  simp only at k2
  replace k2 := Lib.hid k2
  have k3 := fun w N l (O : Own W w (Octs.rdA N s2 e2 :: l)) => refListB_O O (by omega) v2 1024 (by decide)
  rw [h3] at k3
  simp only at k3
  replace k3 := Lib.hid k3
  have kK := Lib.hid (fun (w : World) (Al : Option Addr) (cl : Nat) (h : RowsAt w Al 11 xs.length (rowFB xs)) => (show Calls Try.prog 72 #[.agg #[nI k, nI t, nI 0, .slice none 0 0, .slice Al xs.length cl, .slice none 0 0]] w fun e w' => e = .returned (.bool (okM (⟨k, t, 0, [], xs, []⟩ : MsgR))) ∧ w.Plus w' from refMay_any (⟨k, t, 0, [], xs, []⟩ : MsgR) ⟨none, Al, none, 0, cl, 0⟩ w ⟨RowsAt.zero _ _ _ _, h, RowsAt.zero _ _ _ _⟩))
  obtain ⟨D, hD⟩ : ∃ D, D = finM (⟨k, t, 0, [], xs, []⟩ : MsgR) s3 e3 := ⟨_, rfl⟩
  rw [← hD]
  have hF0 : Octs.rDone s3 e3 = 2 → D = (msZ, 2) := fun p => by rw [hD]; exact finM_bad _ _ _ p
  have hG0 : Octs.rDone s3 e3 = 0 → D = if okM (⟨k, t, 0, [], xs, []⟩ : MsgR) then ((⟨k, t, 0, [], xs, []⟩ : MsgR), 0) else (msZ, 2) := fun p => by rw [hD]; exact finM_good _ _ _ p
  clear hD
  have O0 := O.newCells [nI 0, nI 0, nI 0, .slice none 0 0, .slice none 0 0, .slice none 0 0] 62
  obtain ⟨w0, hw0⟩ : ∃ q, wx.alloc (.cells #[nI 0, nI 0, nI 0, .slice none 0 0, .slice none 0 0, .slice none 0 0] 62) = q := ⟨_, rfl⟩
  rw [hw0] at O0
  replace O0 := Lib.hid O0
  replace hw0 := Lib.hid hw0
  clear O h1 h2 h3
  have hF : (e3 = true ∨ s3.size ≠ 0) → D = (msZ, 2) := fun p => hF0 (by
    unfold Octs.rDone
    rw [if_pos (p.imp id (fun h e => h (by rw [e]; rfl)))])
  have hG : e3 = false → s3.size = 0 → D = if okM (⟨k, t, 0, [], xs, []⟩ : MsgR) then ((⟨k, t, 0, [], xs, []⟩ : MsgR), 0) else (msZ, 2) := fun p q => hG0 (by
    unfold Octs.rDone
    rw [if_neg (by rw [p, Octs.empty_of_size q]; simp)])
  clear hF0 hG0
  replace kA := Lib.hid kA
  replace kB := Lib.hid kB
  go_enter Try.func42, Try.ntmps42
  go_upto_region 1 with fail
  rw [hw0.out]
  clear hw0
  generalize wx.heap.size = R0 at *
  go_upto_region 2 with fail
  have O1 := Own.newRd O0.out s 37
  obtain ⟨w1, hw1⟩ : ∃ q, w0.alloc (.cells #[.string s, .bool false] 37) = q := ⟨_, rfl⟩
  rw [hw1] at O1
  rw [hw1]
  clear hw1 O0
  generalize w0.heap.size = N at *
  have j1 := Lib.hid (k1.out _ _ _ O1)
  clear k1 O1
  go_upto_region 3 with (go_at_call 56; (with_reducible refine j1.out.mono ?_); clear j1; rintro e w2 ⟨rfl, O2⟩)
  have O3 := (O2.newCells [nI k, nI 0, nI 0, .slice none 0 0, .slice none 0 0, .slice none 0 0] 62).rot1
  obtain ⟨w3, hw3⟩ : ∃ q, w2.alloc (.cells #[nI k, nI 0, nI 0, .slice none 0 0, .slice none 0 0, .slice none 0 0] 62) = q := ⟨_, rfl⟩
  rw [hw3] at O3
  rw [hw3]
  clear hw3 O2
  generalize w2.heap.size = C at *
  have x0 := (Own.cells 1 O3 rfl).2.1 0 (by simp)
  simp only [List.getElem?_cons_zero] at x0
  haveI : InW C w3 := ⟨(Own.cells 1 O3 rfl).1⟩
  replace O3 := Lib.hid O3
  go_upto_region 4 with (first
    | (go_at_call 73; (with_reducible refine (kA.out _).mono ?_); rintro e w' ⟨rfl, eA, rfl⟩)
    | (go_at_call 74; (with_reducible refine (kB.out _).mono ?_); rintro e w' ⟨rfl, eB, rfl⟩))
  go_upto_region 5 with (first
    | (go_at_call 56; (with_reducible refine (k2.out _ _ _ (Own.atP O3.out _ (by (repeat (first | exact Plus.refl _ | apply Plus.plus | apply Plus.alloc | apply Plus.drew))))).mono ?_); clear k2 x0; rintro e w6 ⟨rfl, O6⟩; replace O6 := Lib.hid O6)
    | (refine wpList_store_O 3 _ _ rfl rfl rfl 1 1 [nI t] [nI k, nI t, nI 0, .slice none 0 0, .slice none 0 0, .slice none 0 0] O6.out rfl rfl rfl (by simp) rfl (by kernel_rfl) rfl ?_; intro w7 O7; replace O7 := Lib.hid O7))
  clear O3 O6
  have x0 := (Own.cells 1 O7.out rfl).2.1 0 (by simp)
  simp only [List.getElem?_cons_zero] at x0
  haveI : InW C w7 := ⟨(Own.cells 1 O7.out rfl).1⟩
  go_upto_region 14 with (first
    | (go_at_call 73; (with_reducible refine (kA.out _).mono ?_); rintro e w' ⟨rfl, eA, rfl⟩)
    | (go_at_call 74; (with_reducible refine (kB.out _).mono ?_); rintro e w' ⟨rfl, eB, rfl⟩))
  go_upto_region 15 with (first
    | (go_at_call 30; (with_reducible refine (k3.out _ _ _ (Own.atP O7.out _ (by (repeat (first | exact Plus.refl _ | apply Plus.plus | apply Plus.alloc | apply Plus.drew))))).mono ?_); clear k3 x0; rintro e w8 ⟨Al, cl, rfl, O8⟩; replace O8 := Lib.hid O8)
    | (refine wpList_store_O 46 _ _ rfl rfl rfl 2 4 [.slice Al xs.length cl] [nI k, nI t, nI 0, .slice none 0 0, .slice Al xs.length cl, .slice none 0 0] O8.out rfl rfl rfl (by simp) rfl (by kernel_rfl) rfl ?_; intro w9 O9; replace O9 := Lib.hid O9))
  clear O7 O8
  obtain ⟨lt, c0', c1', f0', f1'⟩ := Octs.Own.rd 1 O9.out rfl
  haveI : InW N w9 := ⟨lt⟩
  clear lt f0' f1'
  have kQ := Lib.hid (fun w (p : w9.Plus w) => kK.out w Al cl (slRowsB rfl (Own.sl 0 (Own.atP O9.out w p) rfl)))
  clear kK kA kB
  cases e3 with
  | true =>
    obtain rfl := hF (.inl rfl)
    clear hF hG kQ
    go_wp2_with (first
      | (refine wpList_store_O 62 _ _ rfl rfl rfl 3 0 [nI 0, nI 0, nI 0, .slice none 0 0, .slice none 0 0, .slice none 0 0] [nI 0, nI 0, nI 0, .slice none 0 0, .slice none 0 0, .slice none 0 0] (Lib.hid (Own.atP O9.out _ (by (repeat (first | exact Plus.refl _ | apply Plus.plus | apply Plus.alloc | apply Plus.drew))))).out rfl rfl rfl (by simp) rfl (by kernel_rfl) rfl ?_; intro wz OZ; replace OZ := Lib.hid OZ))
    exact bodyPost_ret (v := .tuple #[.agg #[nI 0, nI 0, nI 0, .slice none 0 0, .slice none 0 0, .slice none 0 0], nI 2]) (results_O2 Try.results42 _ 3 OZ.out rfl rfl Try.underlying62 rfl (by kernel_rfl)) rfl ⟨a0, rfl, msgA_none (OZ.out.drop.drop.drop.drop)⟩
  | false =>
  by_cases hz : s3.size = 0
  case neg =>
    obtain rfl := hF (.inr hz)
    have hzi : (0 : Int) < (s3.size : Nat) := by omega
    have hzn : 0 < s3.size := by omega
    have hze : ¬ s3 = ByteArray.empty := fun e => hz (by rw [e]; rfl)
    clear hF hG kQ hz
    go_wp2_with (first
      | (refine wpList_store_O 62 _ _ rfl rfl rfl 3 0 [nI 0, nI 0, nI 0, .slice none 0 0, .slice none 0 0, .slice none 0 0] [nI 0, nI 0, nI 0, .slice none 0 0, .slice none 0 0, .slice none 0 0] (Lib.hid (Own.atP O9.out _ (by (repeat (first | exact Plus.refl _ | apply Plus.plus | apply Plus.alloc | apply Plus.drew))))).out rfl rfl rfl (by simp) rfl (by kernel_rfl) rfl ?_; intro wz OZ; replace OZ := Lib.hid OZ))
    exact bodyPost_ret (v := .tuple #[.agg #[nI 0, nI 0, nI 0, .slice none 0 0, .slice none 0 0, .slice none 0 0], nI 2]) (results_O2 Try.results42 _ 3 OZ.out rfl rfl Try.underlying62 rfl (by kernel_rfl)) rfl ⟨a0, rfl, msgA_none (OZ.out.drop.drop.drop.drop)⟩
  case pos =>
  have hzi : ¬ (0 : Int) < (s3.size : Nat) := by omega
  have hG' := hG rfl hz
  have hze : s3 = ByteArray.empty := Octs.empty_of_size hz
  clear hF hG
  cases hok : okM (⟨k, t, 0, [], xs, []⟩ : MsgR) with
  | false =>
    rw [hok, if_neg (by simp)] at hG'
    subst hG'
    rw [hok] at kQ
    clear hok
    go_wp2_with (first
      | (go_at_call 72; (with_reducible refine (kQ.out _ (by (repeat (first | exact Plus.refl _ | apply Plus.plus | apply Plus.alloc | apply Plus.drew)))).mono ?_); rintro e w' ⟨rfl, d2, rfl⟩)
      | (refine wpList_load_O 62 _ rfl rfl 2 0 [nI k, nI t, nI 0, .slice none 0 0, .slice Al xs.length cl, .slice none 0 0] (Own.atP O9.out _ (by (repeat (first | exact Plus.refl _ | apply Plus.plus | apply Plus.alloc | apply Plus.drew)))) rfl rfl (by simp) rfl Try.underlying62 rfl (by kernel_rfl) ?_)
      | (refine wpList_store_O 62 _ _ rfl rfl rfl 3 0 [nI 0, nI 0, nI 0, .slice none 0 0, .slice none 0 0, .slice none 0 0] [nI 0, nI 0, nI 0, .slice none 0 0, .slice none 0 0, .slice none 0 0] (Lib.hid (Own.atP O9.out _ (by (repeat (first | exact Plus.refl _ | apply Plus.plus | apply Plus.alloc | apply Plus.drew))))).out rfl rfl rfl (by simp) rfl (by kernel_rfl) rfl ?_; intro wz OZ; replace OZ := Lib.hid OZ))
    exact bodyPost_ret (v := .tuple #[.agg #[nI 0, nI 0, nI 0, .slice none 0 0, .slice none 0 0, .slice none 0 0], nI 2]) (results_O2 Try.results42 _ 3 OZ.out rfl rfl Try.underlying62 rfl (by kernel_rfl)) rfl ⟨a0, rfl, msgA_none (OZ.out.drop.drop.drop.drop)⟩
  | true =>
    rw [hok, if_pos rfl] at hG'
    subst hG'
    rw [hok] at kQ
    clear hok
    go_wp2_with (first
      | (go_at_call 72; (with_reducible refine (kQ.out _ (by (repeat (first | exact Plus.refl _ | apply Plus.plus | apply Plus.alloc | apply Plus.drew)))).mono ?_); rintro e w' ⟨rfl, d2, rfl⟩)
      | (refine wpList_load_O 62 _ rfl rfl 2 0 [nI k, nI t, nI 0, .slice none 0 0, .slice Al xs.length cl, .slice none 0 0] (Own.atP O9.out _ (by (repeat (first | exact Plus.refl _ | apply Plus.plus | apply Plus.alloc | apply Plus.drew)))) rfl rfl (by simp) rfl Try.underlying62 rfl (by kernel_rfl) ?_)
      | (refine wpList_store_O 62 _ _ rfl rfl rfl 3 0 [nI k, nI t, nI 0, .slice none 0 0, .slice Al xs.length cl, .slice none 0 0] [nI k, nI t, nI 0, .slice none 0 0, .slice Al xs.length cl, .slice none 0 0] (Lib.hid (Own.atP O9.out _ (by (repeat (first | exact Plus.refl _ | apply Plus.plus | apply Plus.alloc | apply Plus.drew))))).out rfl rfl rfl (by simp) rfl (by kernel_rfl) rfl ?_; intro wz OZ; replace OZ := Lib.hid OZ))
    exact bodyPost_ret (v := .tuple #[.agg #[nI k, nI t, nI 0, .slice none 0 0, .slice Al xs.length cl, .slice none 0 0], nI 0]) (results_O2 Try.results42 _ 3 OZ.out rfl rfl Try.underlying62 rfl (by kernel_rfl)) rfl ⟨⟨none, Al, none, 0, cl, 0⟩, rfl, Own.nilSl (Own.rot1 (Own.nilSl (OZ.out.rot1.drop.rot1.drop.rot1.drop) 3)) 16⟩
end Go.Proofs.Ytjfjecjigakdnaa
