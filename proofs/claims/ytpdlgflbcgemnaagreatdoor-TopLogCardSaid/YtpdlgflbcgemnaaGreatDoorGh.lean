/- Plain laws and walks: CodU, CodV, CodW. -/
import Derived.Test.YtpdlgflbcgemnaaGreatDoorGy
import Derived.Test.YtpdlgflbcgemnaaGreatDoorGw
-- CodU
/- codec: TakeID, the reference's: walks. -/
set_option linter.unusedSimpArgs false
set_option linter.unusedVariables false
namespace Go.Proofs.YtpdlgflbcgemnaaGreatDoor
open Go.RowKit
set_option maxRecDepth 100000
set_option maxHeartbeats 400000
section
variable {W wx : World} {N : Nat} {s : ByteArray} {b : Bool} {l : List Asn}
theorem soundI_any (h : Own W wx (Octs.rdA N s b :: l)) (hs : s.size ≤ 281474976710656) (hb : inv (s, b)) (x : IdR) (ok : Bool) : Calls Tryz.prog 82 #[Octs.rdV N, x.v, nI (if ok then 0 else 1)] wx (OwnTo W (snd ok idZ x s b).1.v (Octs.rdA N (snd ok idZ x s b).2.1 (snd ok idZ x s b).2.2 :: l)) := by
  cases b with
  | true => exact soundI_bad1 h hs (hb rfl) x _
  | false =>
    cases ok with
    | true => exact soundI_ok h hs x
    | false => exact soundI_bad2 h hs x 1 (by decide)
theorem soundB_any (h : Own W wx (Octs.rdA N s b :: l)) (hs : s.size ≤ 281474976710656) (hb : inv (s, b)) (x : BdR) (ok : Bool) : Calls Tryz.prog 81 #[Octs.rdV N, x.v, nI (if ok then 0 else 1)] wx (OwnTo W (snd ok bdZ x s b).1.v (Octs.rdA N (snd ok bdZ x s b).2.1 (snd ok bdZ x s b).2.2 :: l)) := by
  cases b with
  | true => exact soundB_bad1 h hs (hb rfl) x _
  | false =>
    cases ok with
    | true => exact soundB_ok h hs x
    | false => exact soundB_bad2 h hs x 1 (by decide)
theorem soundC_any (h : Own W wx (Octs.rdA N s b :: l)) (hs : s.size ≤ 281474976710656) (hb : inv (s, b)) (x : CmdR) (ok : Bool) : Calls Tryz.prog 80 #[Octs.rdV N, x.v, nI (if ok then 0 else 1)] wx (OwnTo W (snd ok cmZ x s b).1.v (Octs.rdA N (snd ok cmZ x s b).2.1 (snd ok cmZ x s b).2.2 :: l)) := by
  cases b with
  | true => exact soundC_bad1 h hs (hb rfl) x _
  | false =>
    cases ok with
    | true => exact soundC_ok h hs x
    | false => exact soundC_bad2 h hs x 1 (by decide)
theorem takeID_O (h : Own W wx (Octs.rdA N s b :: l)) (hs : s.size ≤ 281474976710656) (hb : inv (s, b)) : Calls Tryz.prog 46 #[Octs.rdV N] wx (OwnTo W (tkI s b).1.v (Octs.rdA N (tkI s b).2.1 (tkI s b).2.2 :: l)) := by
  have z1 := Octs.rInt_size s b
  have i1 := rInt_inv2 s b hb
  have O0 := h.newCells [nI 0, nI 0, nI 0] 73
  obtain ⟨w0, hw0⟩ : ∃ q, wx.alloc (.cells #[nI 0, nI 0, nI 0] 73) = q := ⟨_, rfl⟩
  rw [hw0] at O0
  have k1 := Octs.rdInt_O O0.rot1 hs
  rcases h1 : Octs.rInt s b with ⟨n1, s1, b1⟩
  rw [h1] at k1 z1 i1
  have z2 := Octs.rInt_size s1 b1
  have i2 := rInt_inv2 s1 b1 i1
  have k2 := fun wz l' (O : Own W wz (Octs.rdA N s1 b1 :: l')) => Octs.rdInt_O O (by simp only at z1; omega)
  rcases h2 : Octs.rInt s1 b1 with ⟨n2, s2, b2⟩
  rw [h2] at k2 z2 i2
  have z3 := Octs.rInt_size s2 b2
  have i3 := rInt_inv2 s2 b2 i2
  have k3 := fun wz l' (O : Own W wz (Octs.rdA N s2 b2 :: l')) => Octs.rdInt_O O (by simp only at z1 z2; omega)
  rcases h3 : Octs.rInt s2 b2 with ⟨n3, s3, b3⟩
  rw [h3] at k3 z3 i3
  simp only at k1 k2 k3 z1 z2 z3
  have hT : tkI s b = snd (idB ⟨n1, n2, n3⟩) idZ ⟨n1, n2, n3⟩ s3 b3 := by
    unfold tkI rs3
    simp only [h1, h2, h3]
  rw [hT]
  have kC := fun w' => checkID_any ⟨n1, n2, n3⟩ w'
  have kS := fun wz l' (O : Own W wz (Octs.rdA N s3 b3 :: l')) => soundI_any O (by omega) i3 ⟨n1, n2, n3⟩ (idB ⟨n1, n2, n3⟩)
  generalize snd (idB ⟨n1, n2, n3⟩) idZ ⟨n1, n2, n3⟩ s3 b3 = t at kS ⊢
  generalize (if idB ⟨n1, n2, n3⟩ = true then (0 : Int) else 1) = E at kC kS
  obtain ⟨⟨v1, v2, v3⟩, s4, b4⟩ := t
  simp only at kS
  replace k1 := Lib.hid k1
  replace k2 := Lib.hid k2
  replace k3 := Lib.hid k3
  replace kC := Lib.hid kC
  replace kS := Lib.hid kS
  clear hT h1 h2 h3 z1 z2 z3 i1 i2 i3 hs hb O0 h
  go_enter Tryz.func46, Tryz.ntmps46
  go_upto_region 1 with fail
  try rw [hw0]
  clear hw0
  generalize wx.heap.size = R0 at *
  go_upto_region 2 with (first
    | (go_at_call 40; (with_reducible refine k1.out.mono ?_); clear k1; rintro e w1 ⟨rfl, O1⟩; have j2 := Lib.hid (k2.out _ _ O1))
    | (go_at_call 40; (with_reducible refine j2.out.mono ?_); clear j2; rintro e w2 ⟨rfl, O2⟩; have j3 := Lib.hid (k3.out _ _ O2))
    | (go_at_call 40; (with_reducible refine j3.out.mono ?_); clear j3; rintro e w3 ⟨rfl, O3⟩))
  have O4 := O3.newCells [nI n1, nI n2, nI n3] 73
  clear O1 O2 O3 k2 k3
  obtain ⟨w4, hw4⟩ : ∃ q, w3.alloc (.cells #[nI n1, nI n2, nI n3] 73) = q := ⟨_, rfl⟩
  rw [hw4] at O4
  try rw [hw4]
  clear hw4
  generalize w3.heap.size = B at *
  obtain ⟨lQ, qQ, fQx⟩ := O4.cells 0 rfl
  have x0 := qQ 0 (by simp)
  have x1 := qQ 1 (by simp)
  have x2 := qQ 2 (by simp)
  simp only [List.getElem?_cons_succ, List.getElem?_cons_zero] at x0 x1 x2
  haveI : InW B w4 := ⟨lQ⟩
  clear qQ lQ
  clear fQx
  replace O4 := Lib.hid O4
  refine wp_region_grow_tail 4 (by kernel_rfl) (by kernel_rfl) ?_
  simp only [List.take_succ_cons, List.take_zero, List.drop_succ_cons, List.drop_zero]
  repeat (go_big_quiet_step ((go_at_call 66; exact Calls.plus_of (kC.out _))))
  refine wpQuiet_nil ?_
  intro ex
  have O5 := O4.out.plus ex
  have kT := Lib.hid (kS.out _ _ O5.rot1)
  clear kS kC O4
  go_wp2_with (go_at_call 82; (with_reducible refine kT.out.mono ?_); rintro e w6 ⟨rfl, O6⟩; clear kT O5; obtain ⟨lQ, qQ, fQr⟩ := O6.cells 2 rfl; have r0 := qQ 0 (by simp); have r1 := qQ 1 (by simp); have r2 := qQ 2 (by simp); simp only [List.getElem?_cons_succ, List.getElem?_cons_zero] at r0 r1 r2; haveI : InW R0 w6 := ⟨lQ⟩; clear qQ lQ; replace O6 := Lib.hid O6)
  have OZ := (((O6.out.setCellAt 2 0 (nI v1) rfl (by simp)).setCellAt 2 1 (nI v2) rfl (by simp)).setCellAt 2 2 (nI v3) rfl (by simp))
  simp only [List.set_cons_succ, List.set_cons_zero] at OZ
  clear O6 fQr r0 r1 r2
  obtain ⟨wf, hwf⟩ : ∃ q, (((w6.setCell ⟨R0, 0, none⟩ (nI v1)).setCell ⟨R0, 1, none⟩ (nI v2)).setCell ⟨R0, 2, none⟩ (nI v3)) = q := ⟨_, rfl⟩
  rw [hwf] at OZ
  refine Eq.mpr (congrArg (bodyPost _ _ _ _ _) hwf) ?_
  clear hwf
  obtain ⟨-, q9, -⟩ := OZ.cells 2 rfl
  have r0 := q9 0 (by simp)
  have r1 := q9 1 (by simp)
  have r2 := q9 2 (by simp)
  simp only [List.getElem?_cons_succ, List.getElem?_cons_zero] at r0 r1 r2
  clear q9
  exact bodyPost_ret (v := .agg #[nI v1, nI v2, nI v3]) (by simp [results, Tryz.results46, go_sem, *]) rfl ⟨rfl, (OZ.rot1.drop.rot1.drop)⟩
end
end Go.Proofs.YtpdlgflbcgemnaaGreatDoor
-- CodV
/- codec: the reference's TakeID: walk. -/
set_option linter.unusedSimpArgs false
set_option linter.unusedVariables false
namespace Go.Proofs.YtpdlgflbcgemnaaGreatDoor
open Go.RowKit
set_option maxRecDepth 100000
set_option maxHeartbeats 400000
section
variable {W wx : World} {N : Nat} {s : ByteArray} {b : Bool} {l : List Asn}
end
end Go.Proofs.YtpdlgflbcgemnaaGreatDoor
-- CodW
/- codec: as: walk. -/
set_option linter.unusedSimpArgs false
set_option linter.unusedVariables false
namespace Go.Proofs.YtpdlgflbcgemnaaGreatDoor
open Go.RowKit
set_option maxRecDepth 100000
set_option maxHeartbeats 1000000
theorem empty_iff (s : ByteArray) : (s.toList.isEmpty = true ↔ s = ⟨#[]⟩) := by
  rw [← decide_eq_emptyBytes, decide_eq_true_iff]
  exact Iff.rfl
end Go.Proofs.YtpdlgflbcgemnaaGreatDoor
