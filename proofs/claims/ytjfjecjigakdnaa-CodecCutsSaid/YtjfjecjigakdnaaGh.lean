/- Plain laws and walks: CodU, CodV, CodW. -/
import Derived.Test.YtjfjecjigakdnaaCodT
import Derived.Test.YtjfjecjigakdnaaCod1
-- CodU
/- codec: TakeID, the reference's: walks. -/
set_option linter.unusedSimpArgs false
set_option linter.unusedVariables false
namespace Go.Proofs.Ytjfjecjigakdnaa
open Go.RowKit
set_option maxRecDepth 100000
set_option maxHeartbeats 400000
section
variable {W wx : World} {N : Nat} {s : ByteArray} {b : Bool} {l : List Asn}
theorem soundI_any (h : Own W wx (Octs.rdA N s b :: l)) (hs : s.size ≤ 281474976710656) (hb : inv (s, b)) (x : IdR) (ok : Bool) : Calls Try.prog 55 #[Octs.rdV N, x.v, nI (if ok then 0 else 1)] wx (OwnTo W (snd ok idZ x s b).1.v (Octs.rdA N (snd ok idZ x s b).2.1 (snd ok idZ x s b).2.2 :: l)) := by
  cases b with
  | true => exact soundI_bad1 h hs (hb rfl) x _
  | false =>
    cases ok with
    | true => exact soundI_ok h hs x
    | false => exact soundI_bad2 h hs x 1 (by decide)
theorem soundB_any (h : Own W wx (Octs.rdA N s b :: l)) (hs : s.size ≤ 281474976710656) (hb : inv (s, b)) (x : BdR) (ok : Bool) : Calls Try.prog 61 #[Octs.rdV N, x.v, nI (if ok then 0 else 1)] wx (OwnTo W (snd ok bdZ x s b).1.v (Octs.rdA N (snd ok bdZ x s b).2.1 (snd ok bdZ x s b).2.2 :: l)) := by
  cases b with
  | true => exact soundB_bad1 h hs (hb rfl) x _
  | false =>
    cases ok with
    | true => exact soundB_ok h hs x
    | false => exact soundB_bad2 h hs x 1 (by decide)
theorem soundC_any (h : Own W wx (Octs.rdA N s b :: l)) (hs : s.size ≤ 281474976710656) (hb : inv (s, b)) (x : CmdR) (ok : Bool) : Calls Try.prog 63 #[Octs.rdV N, x.v, nI (if ok then 0 else 1)] wx (OwnTo W (snd ok cmZ x s b).1.v (Octs.rdA N (snd ok cmZ x s b).2.1 (snd ok cmZ x s b).2.2 :: l)) := by
  cases b with
  | true => exact soundC_bad1 h hs (hb rfl) x _
  | false =>
    cases ok with
    | true => exact soundC_ok h hs x
    | false => exact soundC_bad2 h hs x 1 (by decide)
theorem takeID_O (h : Own W wx (Octs.rdA N s b :: l)) (hs : s.size ≤ 281474976710656) (hb : inv (s, b)) : Calls Try.prog 19 #[Octs.rdV N] wx (OwnTo W (tkI s b).1.v (Octs.rdA N (tkI s b).2.1 (tkI s b).2.2 :: l)) := by
  have z1 := Octs.rInt_size s b
  have i1 := rInt_inv2 s b hb
  have O0 := h.newCells [nI 0, nI 0, nI 0] 23
  obtain ⟨w0, hw0⟩ : ∃ q, wx.alloc (.cells #[nI 0, nI 0, nI 0] 23) = q := ⟨_, rfl⟩
  rw [hw0] at O0
  have k1 := Octs.rdInt_O O0.rot1 hs
  rcases h1 : Octs.rInt s b with ⟨n1, s1, b1⟩
  rw [h1] at k1 z1 i1
  have z2 := Octs.rInt_size s1 b1
  have i2 := rInt_inv2 s1 b1 i1
  have k2 := fun wz l' (O : Own W wz (Octs.rdA N s1 b1 :: l')) => Octs.rdInt_O O (by simp only at z1; omega)
  rcases h2 : Octs.rInt s1 b1 with ⟨n2, s2, b2⟩
  rw [h2] at k2 z2 i2
  have z3 := Octs.rInt_size s2 b2
  have i3 := rInt_inv2 s2 b2 i2
  have k3 := fun wz l' (O : Own W wz (Octs.rdA N s2 b2 :: l')) => Octs.rdInt_O O (by simp only at z1 z2; omega)
  rcases h3 : Octs.rInt s2 b2 with ⟨n3, s3, b3⟩
  rw [h3] at k3 z3 i3
  simp only at k1 k2 k3 z1 z2 z3
  have hT : tkI s b = snd (idB ⟨n1, n2, n3⟩) idZ ⟨n1, n2, n3⟩ s3 b3 := by
    unfold tkI rs3
    simp only [h1, h2, h3]
  rw [hT]
  have kC := fun w' => checkID_any ⟨n1, n2, n3⟩ w'
  have kS := fun wz l' (O : Own W wz (Octs.rdA N s3 b3 :: l')) => soundI_any O (by omega) i3 ⟨n1, n2, n3⟩ (idB ⟨n1, n2, n3⟩)
  generalize snd (idB ⟨n1, n2, n3⟩) idZ ⟨n1, n2, n3⟩ s3 b3 = t at kS ⊢
  generalize (if idB ⟨n1, n2, n3⟩ = true then (0 : Int) else 1) = E at kC kS
  obtain ⟨⟨v1, v2, v3⟩, s4, b4⟩ := t
  simp only at kS
  replace k1 := Lib.hid k1
  replace k2 := Lib.hid k2
  replace k3 := Lib.hid k3
  replace kC := Lib.hid kC
  replace kS := Lib.hid kS
  clear hT h1 h2 h3 z1 z2 z3 i1 i2 i3 hs hb O0 h
  go_enter Try.func19, Try.ntmps19
  go_upto_region 1 with fail
  try rw [hw0]
  clear hw0
  generalize wx.heap.size = R0 at *
  go_upto_region 2 with (first
    | (go_at_call 54; (with_reducible refine k1.out.mono ?_); clear k1; rintro e w1 ⟨rfl, O1⟩; have j2 := Lib.hid (k2.out _ _ O1))
    | (go_at_call 54; (with_reducible refine j2.out.mono ?_); clear j2; rintro e w2 ⟨rfl, O2⟩; have j3 := Lib.hid (k3.out _ _ O2))
    | (go_at_call 54; (with_reducible refine j3.out.mono ?_); clear j3; rintro e w3 ⟨rfl, O3⟩))
  have O4 := O3.newCells [nI n1, nI n2, nI n3] 23
  clear O1 O2 O3 k2 k3
  obtain ⟨w4, hw4⟩ : ∃ q, w3.alloc (.cells #[nI n1, nI n2, nI n3] 23) = q := ⟨_, rfl⟩
  rw [hw4] at O4
  try rw [hw4]
  clear hw4
  generalize w3.heap.size = B at *
  obtain ⟨lQ, qQ, fQx⟩ := O4.cells 0 rfl
  have x0 := qQ 0 (by simp)
  have x1 := qQ 1 (by simp)
  have x2 := qQ 2 (by simp)
  simp only [List.getElem?_cons_succ, List.getElem?_cons_zero] at x0 x1 x2
  haveI : InW B w4 := ⟨lQ⟩
  clear qQ lQ
  clear fQx
  replace O4 := Lib.hid O4
  refine wp_region_grow_tail 4 (by kernel_rfl) (by kernel_rfl) ?_
  simp only [List.take_succ_cons, List.take_zero, List.drop_succ_cons, List.drop_zero]
  repeat (go_big_quiet_step ((go_at_call 44; exact Calls.plus_of (kC.out _))))
  refine wpQuiet_nil ?_
  intro ex
  have O5 := O4.out.plus ex
  have kT := Lib.hid (kS.out _ _ O5.rot1)
  clear kS kC O4
  go_wp2_with (go_at_call 55; (with_reducible refine kT.out.mono ?_); rintro e w6 ⟨rfl, O6⟩; clear kT O5; obtain ⟨lQ, qQ, fQr⟩ := O6.cells 2 rfl; have r0 := qQ 0 (by simp); have r1 := qQ 1 (by simp); have r2 := qQ 2 (by simp); simp only [List.getElem?_cons_succ, List.getElem?_cons_zero] at r0 r1 r2; haveI : InW R0 w6 := ⟨lQ⟩; clear qQ lQ; replace O6 := Lib.hid O6)
  have OZ := (((O6.out.setCellAt 2 0 (nI v1) rfl (by simp)).setCellAt 2 1 (nI v2) rfl (by simp)).setCellAt 2 2 (nI v3) rfl (by simp))
  simp only [List.set_cons_succ, List.set_cons_zero] at OZ
  clear O6 fQr r0 r1 r2
  obtain ⟨wf, hwf⟩ : ∃ q, (((w6.setCell ⟨R0, 0, none⟩ (nI v1)).setCell ⟨R0, 1, none⟩ (nI v2)).setCell ⟨R0, 2, none⟩ (nI v3)) = q := ⟨_, rfl⟩
  rw [hwf] at OZ
  refine Eq.mpr (congrArg (bodyPost _ _ _ _ _) hwf) ?_
  clear hwf
  obtain ⟨-, q9, -⟩ := OZ.cells 2 rfl
  have r0 := q9 0 (by simp)
  have r1 := q9 1 (by simp)
  have r2 := q9 2 (by simp)
  simp only [List.getElem?_cons_succ, List.getElem?_cons_zero] at r0 r1 r2
  clear q9
  exact bodyPost_ret (v := .agg #[nI v1, nI v2, nI v3]) (by simp [results, Try.results19, go_sem, *]) rfl ⟨rfl, (OZ.rot1.drop.rot1.drop)⟩
end
end Go.Proofs.Ytjfjecjigakdnaa
-- CodV
/- codec: the reference's TakeID: walk. -/
set_option linter.unusedSimpArgs false
set_option linter.unusedVariables false
namespace Go.Proofs.Ytjfjecjigakdnaa
open Go.RowKit
set_option maxRecDepth 100000
set_option maxHeartbeats 400000
section
variable {W wx : World} {N : Nat} {s : ByteArray} {b : Bool} {l : List Asn}
theorem refTakeID_O (h : Own W wx (Octs.rdA N s b :: l)) (hs : s.size ≤ 281474976710656) (hb : inv (s, b)) : Calls Try.prog 20 #[Octs.rdV N] wx (OwnTo W (tkI s b).1.v (Octs.rdA N (tkI s b).2.1 (tkI s b).2.2 :: l)) := by
  have z1 := Octs.rInt_size s b
  have i1 := rInt_inv2 s b hb
  have O0 := (h.newCells [nI 0, nI 0, nI 0] 23).newCells [nI 0, nI 0, nI 0] 23
  rw [World.size_alloc] at O0
  obtain ⟨w0, hw0⟩ : ∃ q, (wx.alloc (.cells #[nI 0, nI 0, nI 0] 23)).alloc (.cells #[nI 0, nI 0, nI 0] 23) = q := ⟨_, rfl⟩
  rw [hw0] at O0
  have k1 := Octs.refRdInt_O (O0.pull 2 rfl) hs hb
  rcases h1 : Octs.rInt s b with ⟨n1, s1, b1⟩
  rw [h1] at k1 z1 i1
  have z2 := Octs.rInt_size s1 b1
  have i2 := rInt_inv2 s1 b1 i1
  have k2 := fun wz l' (O : Own W wz (Octs.rdA N s1 b1 :: l')) => Octs.refRdInt_O O (by simp only at z1; omega) i1
  rcases h2 : Octs.rInt s1 b1 with ⟨n2, s2, b2⟩
  rw [h2] at k2 z2 i2
  have z3 := Octs.rInt_size s2 b2
  have i3 := rInt_inv2 s2 b2 i2
  have k3 := fun wz l' (O : Own W wz (Octs.rdA N s2 b2 :: l')) => Octs.refRdInt_O O (by simp only at z1 z2; omega) i2
  rcases h3 : Octs.rInt s2 b2 with ⟨n3, s3, b3⟩
  rw [h3] at k3 z3 i3
  simp only at k1 k2 k3 z1 z2 z3
  have hT : tkI s b = snd (idB ⟨n1, n2, n3⟩) idZ ⟨n1, n2, n3⟩ s3 b3 := by
    unfold tkI rs3
    simp only [h1, h2, h3]
  rw [hT]
  have kC := fun w' => rightID_any ⟨n1, n2, n3⟩ w'
  unfold snd
  generalize idB ⟨n1, n2, n3⟩ = ok at *
  replace k1 : RowKit.Hid (Calls Try.prog 56 #[Octs.rdV N] w0 (OwnTo W (nI n1) (Octs.rdA N s1 b1 :: cellsA (wx.heap.size + 1) [nI 0, nI 0, nI 0] :: cellsA wx.heap.size [nI 0, nI 0, nI 0] :: l))) := Lib.hid k1
  replace k2 := Lib.hid k2
  replace k3 := Lib.hid k3
  replace kC := Lib.hid kC
  clear hT h1 h2 h3 z1 z2 z3 i1 i2 i3 hs hb O0 h
  obtain ⟨V, hV⟩ : ∃ V : IdR × ByteArray × Bool, V = if (b3 || !ok) = true then (idZ, ⟨#[]⟩, true) else (⟨n1, n2, n3⟩, s3, false) := ⟨_, rfl⟩
  rw [← hV]
  replace hV := Lib.hid hV
  replace hw0 := Lib.hid hw0
  go_enter Try.func20, Try.ntmps20
  go_upto_region 2 with fail
  rw [hw0.out]
  clear hw0
  generalize wx.heap.size = R0 at *
  go_upto_region 3 with (go_at_call 56; (with_reducible refine k1.out.mono ?_); clear k1; rintro e v1 ⟨rfl, P1⟩; obtain ⟨lQ, qQ, fQx⟩ := P1.cells 1 rfl; have x0 := qQ 0 (by simp); have x1 := qQ 1 (by simp); have x2 := qQ 2 (by simp); simp only [List.getElem?_cons_succ, List.getElem?_cons_zero] at x0 x1 x2; haveI : InW (R0 + 1) v1 := ⟨lQ⟩; clear qQ lQ)
  have O1 := P1.setCellAt 1 0 (nI n1) rfl (by simp)
  simp only [List.set_cons_succ, List.set_cons_zero] at O1
  obtain ⟨w1, hw1⟩ : ∃ q, v1.setCell ⟨R0 + 1, 0, none⟩ (nI n1) = q := ⟨_, rfl⟩
  rw [hw1] at O1
  try rw [hw1]
  clear hw1 P1 x0 x1 x2 fQx
  have j2 := Lib.hid (k2.out _ _ O1)
  clear O1 k2
  go_upto_region 4 with (go_at_call 56; (with_reducible refine j2.out.mono ?_); clear j2; rintro e v2 ⟨rfl, P2⟩; obtain ⟨lQ, qQ, fQx⟩ := P2.cells 1 rfl; have x0 := qQ 0 (by simp); have x1 := qQ 1 (by simp); have x2 := qQ 2 (by simp); simp only [List.getElem?_cons_succ, List.getElem?_cons_zero] at x0 x1 x2; haveI : InW (R0 + 1) v2 := ⟨lQ⟩; clear qQ lQ)
  have O2 := P2.setCellAt 1 1 (nI n2) rfl (by simp)
  simp only [List.set_cons_succ, List.set_cons_zero] at O2
  obtain ⟨w2, hw2⟩ : ∃ q, v2.setCell ⟨R0 + 1, 1, none⟩ (nI n2) = q := ⟨_, rfl⟩
  rw [hw2] at O2
  try rw [hw2]
  clear hw2 P2 x0 x1 x2 fQx
  have j3 := Lib.hid (k3.out _ _ O2)
  clear O2 k3
  go_upto_region 5 with (go_at_call 56; (with_reducible refine j3.out.mono ?_); clear j3; rintro e v3 ⟨rfl, P3⟩; obtain ⟨lQ, qQ, fQx⟩ := P3.cells 1 rfl; have x0 := qQ 0 (by simp); have x1 := qQ 1 (by simp); have x2 := qQ 2 (by simp); simp only [List.getElem?_cons_succ, List.getElem?_cons_zero] at x0 x1 x2; haveI : InW (R0 + 1) v3 := ⟨lQ⟩; clear qQ lQ)
  have O3 := P3.setCellAt 1 2 (nI n3) rfl (by simp)
  simp only [List.set_cons_succ, List.set_cons_zero] at O3
  obtain ⟨w3, hw3⟩ : ∃ q, v3.setCell ⟨R0 + 1, 2, none⟩ (nI n3) = q := ⟨_, rfl⟩
  rw [hw3] at O3
  try rw [hw3]
  clear hw3 P3 x0 x1 x2 fQx
  obtain ⟨lt, c0, c1, f0, f1⟩ := Octs.Own.rd 0 O3 rfl
  haveI : InW N w3 := ⟨lt⟩
  clear lt
  obtain ⟨lQ, qQ, fQx⟩ := O3.cells 1 rfl
  have x0 := qQ 0 (by simp)
  have x1 := qQ 1 (by simp)
  have x2 := qQ 2 (by simp)
  simp only [List.getElem?_cons_succ, List.getElem?_cons_zero] at x0 x1 x2
  haveI : InW (R0 + 1) w3 := ⟨lQ⟩
  clear qQ lQ
  clear fQx
  obtain ⟨lQ, qQ, fQr⟩ := O3.cells 2 rfl
  have r0 := qQ 0 (by simp)
  have r1 := qQ 1 (by simp)
  have r2 := qQ 2 (by simp)
  simp only [List.getElem?_cons_succ, List.getElem?_cons_zero] at r0 r1 r2
  haveI : InW R0 w3 := ⟨lQ⟩
  clear qQ lQ
  have kB := Lib.hid (fun wz (p : w3.Plus wz) => refBad_O (Own.atP O3 wz p))
  replace O3 := Lib.hid O3
  cases b3 with
  | true =>
    obtain rfl : V = (idZ, ⟨#[]⟩, true) := hV.out
    clear hV
    simp only
    go_upto_region 7 with (go_at_call 57; (with_reducible refine (kB.out _ (by (repeat (first | exact Plus.refl _ | apply Plus.plus | apply Plus.alloc | apply Plus.drew)))).mono ?_); rintro e w6 ⟨rfl, O6⟩; clear kB O3 r0 r1 r2 fQr x0 x1 x2 c0 c1 f0 f1; obtain ⟨lQ, qQ, fQr⟩ := O6.cells 2 rfl; have r0 := qQ 0 (by simp); have r1 := qQ 1 (by simp); have r2 := qQ 2 (by simp); simp only [List.getElem?_cons_succ, List.getElem?_cons_zero] at r0 r1 r2; haveI : InW R0 w6 := ⟨lQ⟩; clear qQ lQ; replace O6 := Lib.hid O6)
    go_wp2_with fail
    have OZ := (((O6.out.setCellAt 2 0 (nI 0) rfl (by simp)).setCellAt 2 1 (nI 0) rfl (by simp)).setCellAt 2 2 (nI 0) rfl (by simp))
    simp only [List.set_cons_succ, List.set_cons_zero] at OZ
    clear O6 fQr r0 r1 r2
    obtain ⟨wf, hwf⟩ : ∃ q, (((w6.setCell ⟨R0, 0, none⟩ (nI 0)).setCell ⟨R0, 1, none⟩ (nI 0)).setCell ⟨R0, 2, none⟩ (nI 0)) = q := ⟨_, rfl⟩
    rw [hwf] at OZ
    refine Eq.mpr (congrArg (bodyPost _ _ _ _ _) hwf) ?_
    clear hwf
    obtain ⟨-, q9, -⟩ := OZ.cells 2 rfl
    have r0 := q9 0 (by simp)
    have r1 := q9 1 (by simp)
    have r2 := q9 2 (by simp)
    simp only [List.getElem?_cons_succ, List.getElem?_cons_zero] at r0 r1 r2
    clear q9
    exact bodyPost_ret (v := idZ.v) (by simp [results, Try.results20, go_sem, *]) rfl ⟨rfl, (OZ.rot1.drop.rot1.drop)⟩
  | false =>
    cases ok with
    | false =>
      obtain rfl : V = (idZ, ⟨#[]⟩, true) := hV.out
      clear hV
      simp only
      go_upto_region 7 with (first
        | (go_at_call 46; (with_reducible refine (kC.out _).mono ?_); rintro e w' ⟨rfl, e1, rfl⟩)
        | (go_at_call 57; (with_reducible refine (kB.out _ (by (repeat (first | exact Plus.refl _ | apply Plus.plus | apply Plus.alloc | apply Plus.drew)))).mono ?_); rintro e w6 ⟨rfl, O6⟩; clear kB O3 r0 r1 r2 fQr x0 x1 x2 c0 c1 f0 f1; obtain ⟨lQ, qQ, fQr⟩ := O6.cells 2 rfl; have r0 := qQ 0 (by simp); have r1 := qQ 1 (by simp); have r2 := qQ 2 (by simp); simp only [List.getElem?_cons_succ, List.getElem?_cons_zero] at r0 r1 r2; haveI : InW R0 w6 := ⟨lQ⟩; clear qQ lQ; replace O6 := Lib.hid O6))
      go_wp2_with fail
      have OZ := (((O6.out.setCellAt 2 0 (nI 0) rfl (by simp)).setCellAt 2 1 (nI 0) rfl (by simp)).setCellAt 2 2 (nI 0) rfl (by simp))
      simp only [List.set_cons_succ, List.set_cons_zero] at OZ
      clear O6 fQr r0 r1 r2
      obtain ⟨wf, hwf⟩ : ∃ q, (((w6.setCell ⟨R0, 0, none⟩ (nI 0)).setCell ⟨R0, 1, none⟩ (nI 0)).setCell ⟨R0, 2, none⟩ (nI 0)) = q := ⟨_, rfl⟩
      rw [hwf] at OZ
      refine Eq.mpr (congrArg (bodyPost _ _ _ _ _) hwf) ?_
      clear hwf
      obtain ⟨-, q9, -⟩ := OZ.cells 2 rfl
      have r0 := q9 0 (by simp)
      have r1 := q9 1 (by simp)
      have r2 := q9 2 (by simp)
      simp only [List.getElem?_cons_succ, List.getElem?_cons_zero] at r0 r1 r2
      clear q9
      exact bodyPost_ret (v := idZ.v) (by simp [results, Try.results20, go_sem, *]) rfl ⟨rfl, (OZ.rot1.drop.rot1.drop)⟩
    | true =>
      obtain rfl : V = (⟨n1, n2, n3⟩, s3, false) := hV.out
      clear hV
      simp only
      go_upto_region 8 with (go_at_call 46; (with_reducible refine (kC.out _).mono ?_); rintro e w' ⟨rfl, e1, rfl⟩)
      have O6 := O3.out.plus e1
      obtain ⟨w6, hw6⟩ : ∃ q, w3.plus e1 = q := ⟨_, rfl⟩
      rw [hw6] at O6
      try rw [hw6]
      clear hw6 O3 r0 r1 r2 x0 x1 x2 fQr c0 c1 f0 f1
      obtain ⟨lQ, qQ, fQx⟩ := O6.cells 1 rfl
      have x0 := qQ 0 (by simp)
      have x1 := qQ 1 (by simp)
      have x2 := qQ 2 (by simp)
      simp only [List.getElem?_cons_succ, List.getElem?_cons_zero] at x0 x1 x2
      haveI : InW (R0 + 1) w6 := ⟨lQ⟩
      clear qQ lQ
      clear fQx
      obtain ⟨lQ, qQ, fQr⟩ := O6.cells 2 rfl
      have r0 := qQ 0 (by simp)
      have r1 := qQ 1 (by simp)
      have r2 := qQ 2 (by simp)
      simp only [List.getElem?_cons_succ, List.getElem?_cons_zero] at r0 r1 r2
      haveI : InW R0 w6 := ⟨lQ⟩
      clear qQ lQ
      replace O6 := Lib.hid O6
      go_wp2_with fail
      have OZ := (((O6.out.setCellAt 2 0 (nI n1) rfl (by simp)).setCellAt 2 1 (nI n2) rfl (by simp)).setCellAt 2 2 (nI n3) rfl (by simp))
      simp only [List.set_cons_succ, List.set_cons_zero] at OZ
      clear O6 fQr r0 r1 r2 x0 x1 x2
      obtain ⟨wf, hwf⟩ : ∃ q, (((w6.setCell ⟨R0, 0, none⟩ (nI n1)).setCell ⟨R0, 1, none⟩ (nI n2)).setCell ⟨R0, 2, none⟩ (nI n3)) = q := ⟨_, rfl⟩
      rw [hwf] at OZ
      refine Eq.mpr (congrArg (bodyPost _ _ _ _ _) hwf) ?_
      clear hwf
      obtain ⟨-, q9, -⟩ := OZ.cells 2 rfl
      have r0 := q9 0 (by simp)
      have r1 := q9 1 (by simp)
      have r2 := q9 2 (by simp)
      simp only [List.getElem?_cons_succ, List.getElem?_cons_zero] at r0 r1 r2
      clear q9
      exact bodyPost_ret (v := .agg #[nI n1, nI n2, nI n3]) (by simp [results, Try.results20, go_sem, *]) rfl ⟨rfl, (OZ.rot1.drop.rot1.drop)⟩
end
end Go.Proofs.Ytjfjecjigakdnaa
-- CodW
/- codec: as: walk. -/
set_option linter.unusedSimpArgs false
set_option linter.unusedVariables false
namespace Go.Proofs.Ytjfjecjigakdnaa
open Go.RowKit
set_option maxRecDepth 100000
set_option maxHeartbeats 1000000
theorem empty_iff (s : ByteArray) : (s.toList.isEmpty = true ↔ s = ⟨#[]⟩) := by
  rw [← decide_eq_emptyBytes, decide_eq_true_iff]
  exact Iff.rfl
theorem as_1 (w : World) (N M : Nat) (h : Octs.RdAt w N ⟨#[]⟩ true) (h' : Octs.RdAt w M ⟨#[]⟩ true) : Calls Try.prog 21 #[Octs.rdV N, Octs.rdV M] w fun e w' => e = .returned (.bool true) ∧ w.Plus w' := by
  have kL := fun wz (p : w.Plus wz) => Octs.rdLeft wz N ⟨#[]⟩ true (h.plusP p) (by decide)
  have kD := fun wz (p : w.Plus wz) => Octs.rdDone wz N ⟨#[]⟩ true (h.plusP p)
  have hd : Octs.rDone ⟨#[]⟩ true = 2 := by decide +kernel
  rw [hd] at kD
  have z : (((⟨#[]⟩ : ByteArray).size : Nat) : Int) = 0 := rfl
  rw [z] at kL
  replace kL := Lib.hid kL
  replace kD := Lib.hid kD
  obtain ⟨lt, c0, c1, f0, f1⟩ := h'
  haveI : InW M w := ⟨lt⟩
  clear hd h f0 f1 lt
  go_enter Try.func21, Try.ntmps21
  go_wp2_with fail
  refine wp_region_grow (by kernel_rfl) (by kernel_rfl) ?_
  repeat (go_big_quiet_step ((first | (go_at_call 58; exact Calls.plus_of (kL.out _ (by (repeat (first | exact Plus.refl _ | apply Plus.plus | apply Plus.alloc | apply Plus.drew))))) | (go_at_call 59; exact Calls.plus_of (kD.out _ (by (repeat (first | exact Plus.refl _ | apply Plus.plus | apply Plus.alloc | apply Plus.drew))))))))
  refine wpQuiet_nil ?_
  intro ex
  go_wp2_with fail
  go_ret
  exact ⟨rfl, by (repeat (first | exact Plus.refl _ | apply Plus.plus | apply Plus.alloc | apply Plus.drew))⟩
theorem as_2 (w : World) (N M : Nat) (h : Octs.RdAt w N ⟨#[]⟩ false) (h' : Octs.RdAt w M ⟨#[]⟩ false) : Calls Try.prog 21 #[Octs.rdV N, Octs.rdV M] w fun e w' => e = .returned (.bool true) ∧ w.Plus w' := by
  have kL := fun wz (p : w.Plus wz) => Octs.rdLeft wz N ⟨#[]⟩ false (h.plusP p) (by decide)
  have kD := fun wz (p : w.Plus wz) => Octs.rdDone wz N ⟨#[]⟩ false (h.plusP p)
  have hd : Octs.rDone ⟨#[]⟩ false = 0 := by decide +kernel
  rw [hd] at kD
  have z : (((⟨#[]⟩ : ByteArray).size : Nat) : Int) = 0 := rfl
  rw [z] at kL
  replace kL := Lib.hid kL
  replace kD := Lib.hid kD
  obtain ⟨lt, c0, c1, f0, f1⟩ := h'
  haveI : InW M w := ⟨lt⟩
  clear hd h f0 f1 lt
  go_enter Try.func21, Try.ntmps21
  go_wp2_with fail
  refine wp_region_grow (by kernel_rfl) (by kernel_rfl) ?_
  repeat (go_big_quiet_step ((first | (go_at_call 58; exact Calls.plus_of (kL.out _ (by (repeat (first | exact Plus.refl _ | apply Plus.plus | apply Plus.alloc | apply Plus.drew))))) | (go_at_call 59; exact Calls.plus_of (kD.out _ (by (repeat (first | exact Plus.refl _ | apply Plus.plus | apply Plus.alloc | apply Plus.drew))))))))
  refine wpQuiet_nil ?_
  intro ex
  go_wp2_with fail
  go_ret
  exact ⟨rfl, by (repeat (first | exact Plus.refl _ | apply Plus.plus | apply Plus.alloc | apply Plus.drew))⟩
theorem as_3 (w : World) (N M : Nat) (s : ByteArray) (hs : s.size ≤ 281474976710656) (hn : s ≠ ⟨#[]⟩) (h : Octs.RdAt w N s false) (h' : Octs.RdAt w M s false) : Calls Try.prog 21 #[Octs.rdV N, Octs.rdV M] w fun e w' => e = .returned (.bool true) ∧ w.Plus w' := by
  have kL := fun wz (p : w.Plus wz) => Octs.rdLeft wz N s false (h.plusP p) hs
  have kD := fun wz (p : w.Plus wz) => Octs.rdDone wz N s false (h.plusP p)
  have hd : Octs.rDone s false = 2 := by
    unfold Octs.rDone
    rw [if_pos (Or.inr hn)]
  rw [hd] at kD
  have q1 : s.toList.isEmpty = false := by rw [Bool.eq_false_iff]; exact fun h => hn ((empty_iff s).1 h)
  have q3 : wrap64 (s.size : Int) = s.size := w64_id (by omega) (by omega)
  replace kL := Lib.hid kL
  replace kD := Lib.hid kD
  obtain ⟨lt, c0, c1, f0, f1⟩ := h'
  haveI : InW M w := ⟨lt⟩
  clear hd h f0 f1 lt hs
  go_enter Try.func21, Try.ntmps21
  go_wp2_with fail
  refine wp_region_grow (by kernel_rfl) (by kernel_rfl) ?_
  repeat (go_big_quiet_step ((first | (go_at_call 58; exact Calls.plus_of (kL.out _ (by (repeat (first | exact Plus.refl _ | apply Plus.plus | apply Plus.alloc | apply Plus.drew))))) | (go_at_call 59; exact Calls.plus_of (kD.out _ (by (repeat (first | exact Plus.refl _ | apply Plus.plus | apply Plus.alloc | apply Plus.drew))))))))
  refine wpQuiet_nil ?_
  intro ex
  go_wp2_with fail
  go_ret
  exact ⟨rfl, by (repeat (first | exact Plus.refl _ | apply Plus.plus | apply Plus.alloc | apply Plus.drew))⟩
theorem as_any (w : World) (N M : Nat) (s : ByteArray) (b : Bool) (hs : s.size ≤ 281474976710656) (hb : inv (s, b)) (h : Octs.RdAt w N s b) (h' : Octs.RdAt w M s b) : Calls Try.prog 21 #[Octs.rdV N, Octs.rdV M] w fun e w' => e = .returned (.bool true) ∧ w.Plus w' := by
  cases b with
  | true =>
    obtain rfl : s = ⟨#[]⟩ := hb rfl
    exact as_1 w N M h h'
  | false =>
    by_cases hn : s = ⟨#[]⟩
    · subst hn; exact as_2 w N M h h'
    · exact as_3 w N M s hs hn h h'
end Go.Proofs.Ytjfjecjigakdnaa
