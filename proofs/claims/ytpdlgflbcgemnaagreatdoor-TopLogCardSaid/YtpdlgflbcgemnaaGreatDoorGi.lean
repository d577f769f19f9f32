/- Plain laws and walks: CodZ, CodRB, CodTK. -/
import Derived.Test.YtpdlgflbcgemnaaGreatDoorGG
-- CodZ
/- codec: TakeBundle, the reference's: walks. -/
set_option linter.unusedSimpArgs false
set_option linter.unusedVariables false
namespace Go.Proofs.YtpdlgflbcgemnaaGreatDoor
open Go.RowKit
set_option maxRecDepth 100000
set_option maxHeartbeats 1000000
theorem tkI_size (s : ByteArray) (b : Bool) : (tkI s b).2.1.size ≤ s.size := Nat.le_trans (snd_size _ _ _ _ _) (rs3_size s b)
theorem tkI_inv (s : ByteArray) (b : Bool) : inv ((tkI s b).2.1, (tkI s b).2.2) := snd_inv _ _ _ _ _
theorem rawR_size (s : ByteArray) (b : Bool) : (rawR s b).2.1.size ≤ s.size := by
  unfold rawR
  split
  · exact Nat.zero_le _
  · exact Nat.le_trans (fill_size _ _) (Octs.rInt_size _ _)
theorem rawR_inv (s : ByteArray) (b : Bool) (h : inv (s, b)) : inv ((rawR s b).2.1, (rawR s b).2.2) := by
  unfold rawR
  split
  · intro _; rfl
  · exact fill_inv _ _ (rInt_inv2 s b h)
theorem tkR_size (s : ByteArray) (b : Bool) : (tkR s b).2.1.size ≤ s.size := Nat.le_trans (snd_size _ _ _ _ _) (rawR_size s b)
theorem tkR_inv (s : ByteArray) (b : Bool) : inv ((tkR s b).2.1, (tkR s b).2.2) := snd_inv _ _ _ _ _
theorem tkB_size (s : ByteArray) (b : Bool) : (tkB s b).2.1.size ≤ s.size := Nat.le_trans (snd_size _ _ _ _ _) (Nat.le_trans (tkR_size _ _) (tkI_size s b))
theorem tkB_inv (s : ByteArray) (b : Bool) : inv ((tkB s b).2.1, (tkB s b).2.2) := snd_inv _ _ _ _ _
theorem tkB_raw (s : ByteArray) (b : Bool) : tkB s b = snd (okB { (rawR (tkI s b).2.1 (tkI s b).2.2).1 with id := (tkI s b).1 }) bdZ { (rawR (tkI s b).2.1 (tkI s b).2.2).1 with id := (tkI s b).1 } (rawR (tkI s b).2.1 (tkI s b).2.2).2.1 (rawR (tkI s b).2.1 (tkI s b).2.2).2.2 := by
  unfold tkB tkR
  simp only
  rcases rawR (tkI s b).2.1 (tkI s b).2.2 with ⟨x, s', b'⟩
  cases b' <;> simp [snd]
section
variable {W wx : World} {N : Nat} {s : ByteArray} {b : Bool} {l : List Asn}
theorem takeBundle_O (h : Own W wx (Octs.rdA N s b :: l)) (hs : s.size ≤ 281474976710656) (hb : inv (s, b)) : Calls Tryz.prog 44 #[Octs.rdV N] wx (OwnTo W (tkB s b).1.v (Octs.rdA N (tkB s b).2.1 (tkB s b).2.2 :: l)) := by
  have z1 := tkI_size s b
  have i1' := tkI_inv s b
  have O0 := h.newCells [nI 0, nI 0, nI 0, nI 0, nI 0, nI 0, nI 0, nI 0, nI 0, nI 0, nI 0] 75
  obtain ⟨w0, hw0⟩ : ∃ q, wx.alloc (.cells #[nI 0, nI 0, nI 0, nI 0, nI 0, nI 0, nI 0, nI 0, nI 0, nI 0, nI 0] 75) = q := ⟨_, rfl⟩
  rw [hw0] at O0
  have k1 := takeID_O O0.rot1 hs hb
  have hT : tkB s b = tkB s b := rfl
  conv at hT => rhs; unfold tkB
  rcases h1 : tkI s b with ⟨⟨i1, i2, i3⟩, s1, b1⟩
  rw [h1] at k1 z1 i1' hT
  simp only at k1 z1 i1' hT
  have z2 := tkR_size s1 b1
  have i2' := tkR_inv s1 b1
  have k2 := fun wz l' (O : Own W wz (Octs.rdA N s1 b1 :: l')) => take_O O (by omega) i1'
  rcases h2 : tkR s1 b1 with ⟨⟨⟨a1, a2, a3⟩, m, c1, c2, c3, c4, c5, c6, c7⟩, s2, b2⟩
  rw [h2] at k2 z2 i2' hT
  simp only at k2 z2 i2' hT
  rw [hT]
  have kC := fun w' => check_any ⟨⟨i1, i2, i3⟩, m, c1, c2, c3, c4, c5, c6, c7⟩ w'
  have kS := fun wz l' (O : Own W wz (Octs.rdA N s2 b2 :: l')) => soundB_any O (by omega) i2' ⟨⟨i1, i2, i3⟩, m, c1, c2, c3, c4, c5, c6, c7⟩ (okB ⟨⟨i1, i2, i3⟩, m, c1, c2, c3, c4, c5, c6, c7⟩)
  generalize snd (okB ⟨⟨i1, i2, i3⟩, m, c1, c2, c3, c4, c5, c6, c7⟩) bdZ ⟨⟨i1, i2, i3⟩, m, c1, c2, c3, c4, c5, c6, c7⟩ s2 b2 = t at kS ⊢
  generalize (if okB ⟨⟨i1, i2, i3⟩, m, c1, c2, c3, c4, c5, c6, c7⟩ = true then (0 : Int) else 1) = E at kC kS
  obtain ⟨⟨⟨u0, u1, u2⟩, u3, u4, u5, u6, u7, u8, u9, u10⟩, s4, b4⟩ := t
  simp only at kS
  replace k1 := Lib.hid k1
  replace k2 := Lib.hid k2
  replace kC := Lib.hid kC
  replace kS := Lib.hid kS
  replace hw0 := Lib.hid hw0
  clear hT h1 h2 z1 z2 i1' i2' hs hb O0 h
  go_enter Tryz.func44, Tryz.ntmps44
  go_upto_region 1 with fail
  rw [hw0.out]
  clear hw0
  generalize wx.heap.size = R0 at *
  go_upto_region 2 with (go_at_call 46; (with_reducible refine k1.out.mono ?_); clear k1; rintro e w1 ⟨rfl, P1⟩)
  have O1 := (P1.newCells [nI i1, nI i2, nI i3] 73).rot1
  obtain ⟨w2, hw2⟩ : ∃ q, w1.alloc (.cells #[nI i1, nI i2, nI i3] 73) = q := ⟨_, rfl⟩
  rw [hw2] at O1
  rw [hw2]
  clear hw2 P1
  generalize w1.heap.size = J at *
  have j2 := Lib.hid (k2.out _ _ O1)
  clear k2 O1
  go_upto_region 3 with (go_at_call 79; (with_reducible refine j2.out.mono ?_); clear j2; rintro e w3 ⟨rfl, P3⟩)
  have O3 := P3.newCells [nI a1, nI a2, nI a3, nI m, nI c1, nI c2, nI c3, nI c4, nI c5, nI c6, nI c7] 75
  obtain ⟨w4, hw4⟩ : ∃ q, w3.alloc (.cells #[nI a1, nI a2, nI a3, nI m, nI c1, nI c2, nI c3, nI c4, nI c5, nI c6, nI c7] 75) = q := ⟨_, rfl⟩
  rw [hw4] at O3
  rw [hw4]
  clear hw4 P3
  generalize w3.heap.size = B at *
  obtain ⟨lQ, qQ, fQx⟩ := O3.cells 0 rfl
  have x0 := qQ 0 (by simp)
  have x1 := qQ 1 (by simp)
  have x2 := qQ 2 (by simp)
  have x3 := qQ 3 (by simp)
  have x4 := qQ 4 (by simp)
  have x5 := qQ 5 (by simp)
  have x6 := qQ 6 (by simp)
  have x7 := qQ 7 (by simp)
  have x8 := qQ 8 (by simp)
  have x9 := qQ 9 (by simp)
  have x10 := qQ 10 (by simp)
  simp only [List.getElem?_cons_succ, List.getElem?_cons_zero] at x0 x1 x2 x3 x4 x5 x6 x7 x8 x9 x10
  haveI : InW B w4 := ⟨lQ⟩
  clear qQ lQ
  obtain ⟨lQ, qQ, fQy⟩ := O3.cells 2 rfl
  have y0 := qQ 0 (by simp)
  have y1 := qQ 1 (by simp)
  have y2 := qQ 2 (by simp)
  simp only [List.getElem?_cons_succ, List.getElem?_cons_zero] at y0 y1 y2
  haveI : InW J w4 := ⟨lQ⟩
  clear qQ lQ
  clear fQy
  replace O3 := Lib.hid O3
  go_upto_region 4 with fail
  have O4 := (((O3.out.setCellAt 0 0 (nI i1) rfl (by simp)).setCellAt 0 1 (nI i2) rfl (by simp)).setCellAt 0 2 (nI i3) rfl (by simp))
  simp only [List.set_cons_succ, List.set_cons_zero] at O4
  obtain ⟨w5, hw5⟩ : ∃ q, (((w4.setCell ⟨B, 0, none⟩ (nI i1)).setCell ⟨B, 1, none⟩ (nI i2)).setCell ⟨B, 2, none⟩ (nI i3)) = q := ⟨_, rfl⟩
  rw [hw5] at O4
  rw [hw5]
  clear hw5 O3 fQx x0 x1 x2 x3 x4 x5 x6 x7 x8 x9 x10 y0 y1 y2
  obtain ⟨lQ, qQ, fQx⟩ := O4.cells 0 rfl
  have x0 := qQ 0 (by simp)
  have x1 := qQ 1 (by simp)
  have x2 := qQ 2 (by simp)
  have x3 := qQ 3 (by simp)
  have x4 := qQ 4 (by simp)
  have x5 := qQ 5 (by simp)
  have x6 := qQ 6 (by simp)
  have x7 := qQ 7 (by simp)
  have x8 := qQ 8 (by simp)
  have x9 := qQ 9 (by simp)
  have x10 := qQ 10 (by simp)
  simp only [List.getElem?_cons_succ, List.getElem?_cons_zero] at x0 x1 x2 x3 x4 x5 x6 x7 x8 x9 x10
  haveI : InW B w5 := ⟨lQ⟩
  clear qQ lQ
  clear fQx
  replace O4 := Lib.hid O4
  refine wp_region_grow_tail 4 (by kernel_rfl) (by kernel_rfl) ?_
  simp only [List.take_succ_cons, List.take_zero, List.drop_succ_cons, List.drop_zero]
  repeat (go_big_quiet_step ((go_at_call 64; exact Calls.plus_of (kC.out _))))
  refine wpQuiet_nil ?_
  intro ex
  have O5 := O4.out.plus ex
  have kT := Lib.hid (kS.out _ _ O5.rot1)
  clear kS kC O4
  go_wp2_with (go_at_call 81; (with_reducible refine kT.out.mono ?_); rintro e w6 ⟨rfl, O6⟩; clear kT O5 x0 x1 x2 x3 x4 x5 x6 x7 x8 x9 x10; obtain ⟨lQ, qQ, fQr⟩ := O6.cells 3 rfl; have r0 := qQ 0 (by simp); have r1 := qQ 1 (by simp); have r2 := qQ 2 (by simp); have r3 := qQ 3 (by simp); have r4 := qQ 4 (by simp); have r5 := qQ 5 (by simp); have r6 := qQ 6 (by simp); have r7 := qQ 7 (by simp); have r8 := qQ 8 (by simp); have r9 := qQ 9 (by simp); have r10 := qQ 10 (by simp); simp only [List.getElem?_cons_succ, List.getElem?_cons_zero] at r0 r1 r2 r3 r4 r5 r6 r7 r8 r9 r10; haveI : InW R0 w6 := ⟨lQ⟩; clear qQ lQ; replace O6 := Lib.hid O6)
  have OZ := (((((((((((O6.out.setCellAt 3 0 (nI u0) rfl (by simp)).setCellAt 3 1 (nI u1) rfl (by simp)).setCellAt 3 2 (nI u2) rfl (by simp)).setCellAt 3 3 (nI u3) rfl (by simp)).setCellAt 3 4 (nI u4) rfl (by simp)).setCellAt 3 5 (nI u5) rfl (by simp)).setCellAt 3 6 (nI u6) rfl (by simp)).setCellAt 3 7 (nI u7) rfl (by simp)).setCellAt 3 8 (nI u8) rfl (by simp)).setCellAt 3 9 (nI u9) rfl (by simp)).setCellAt 3 10 (nI u10) rfl (by simp))
  simp only [List.set_cons_succ, List.set_cons_zero] at OZ
  clear O6 fQr r0 r1 r2 r3 r4 r5 r6 r7 r8 r9 r10
  obtain ⟨wf, hwf⟩ : ∃ q, (((((((((((w6.setCell ⟨R0, 0, none⟩ (nI u0)).setCell ⟨R0, 1, none⟩ (nI u1)).setCell ⟨R0, 2, none⟩ (nI u2)).setCell ⟨R0, 3, none⟩ (nI u3)).setCell ⟨R0, 4, none⟩ (nI u4)).setCell ⟨R0, 5, none⟩ (nI u5)).setCell ⟨R0, 6, none⟩ (nI u6)).setCell ⟨R0, 7, none⟩ (nI u7)).setCell ⟨R0, 8, none⟩ (nI u8)).setCell ⟨R0, 9, none⟩ (nI u9)).setCell ⟨R0, 10, none⟩ (nI u10)) = q := ⟨_, rfl⟩
  rw [hwf] at OZ
  refine Eq.mpr (congrArg (bodyPost _ _ _ _ _) hwf) ?_
  clear hwf
  obtain ⟨-, q9, -⟩ := OZ.cells 3 rfl
  have r0 := q9 0 (by simp)
  have r1 := q9 1 (by simp)
  have r2 := q9 2 (by simp)
  have r3 := q9 3 (by simp)
  have r4 := q9 4 (by simp)
  have r5 := q9 5 (by simp)
  have r6 := q9 6 (by simp)
  have r7 := q9 7 (by simp)
  have r8 := q9 8 (by simp)
  have r9 := q9 9 (by simp)
  have r10 := q9 10 (by simp)
  simp only [List.getElem?_cons_succ, List.getElem?_cons_zero] at r0 r1 r2 r3 r4 r5 r6 r7 r8 r9 r10
  clear q9
  exact bodyPost_ret (v := .agg #[nI u0, nI u1, nI u2, nI u3, nI u4, nI u5, nI u6, nI u7, nI u8, nI u9, nI u10]) (by simp [results, Tryz.results44, go_sem, *]) rfl ⟨rfl, (OZ.rot1.drop.rot1.drop.rot1.drop)⟩
end
end Go.Proofs.YtpdlgflbcgemnaaGreatDoor
-- CodRB
/- codec: the reference's TakeBundle: walk. -/
set_option linter.unusedSimpArgs false
set_option linter.unusedVariables false
namespace Go.Proofs.YtpdlgflbcgemnaaGreatDoor
open Go.RowKit
set_option maxRecDepth 100000
set_option maxHeartbeats 1000000
section
variable {W wx : World} {N : Nat} {s : ByteArray} {b : Bool} {l : List Asn}
end
end Go.Proofs.YtpdlgflbcgemnaaGreatDoor
-- CodTK
/- codec: what is read of a command: plain laws. -/
set_option linter.unusedSimpArgs false
set_option linter.unusedVariables false
namespace Go.Proofs.YtpdlgflbcgemnaaGreatDoor
open Go.RowKit
def fin (c : CmdR) (s : ByteArray) (b : Bool) : CmdR × ByteArray × Bool := snd (okC c) cmZ c s b
/-- what is read of a command -/
def tkC (s : ByteArray) (b : Bool) : CmdR × ByteArray × Bool :=
  let k := Octs.rInt s b
  if k.1 = 1 then let t := tkB k.2.1 k.2.2; fin ⟨k.1, idZ, t.1, 0⟩ t.2.1 t.2.2
  else if k.1 = 2 then let t := tkI k.2.1 k.2.2; fin ⟨k.1, t.1, bdZ, 0⟩ t.2.1 t.2.2
  else if k.1 = 3 then let t := tkI k.2.1 k.2.2; let r := tkR t.2.1 t.2.2; fin ⟨k.1, t.1, r.1, 0⟩ r.2.1 r.2.2
  else if k.1 = 4 then let t := tkI k.2.1 k.2.2; let r := Octs.rInt t.2.1 t.2.2; fin ⟨k.1, t.1, bdZ, r.1⟩ r.2.1 r.2.2
  else fin ⟨k.1, idZ, bdZ, 0⟩ k.2.1 k.2.2
theorem tkC_size (s : ByteArray) (b : Bool) : (tkC s b).2.1.size ≤ s.size := by
  have h0 := Octs.rInt_size s b
  unfold tkC fin
  simp only
  split
  · exact Nat.le_trans (snd_size _ _ _ _ _) (Nat.le_trans (tkB_size _ _) h0)
  split
  · exact Nat.le_trans (snd_size _ _ _ _ _) (Nat.le_trans (tkI_size _ _) h0)
  split
  · exact Nat.le_trans (snd_size _ _ _ _ _) (Nat.le_trans (tkR_size _ _) (Nat.le_trans (tkI_size _ _) h0))
  split
  · exact Nat.le_trans (snd_size _ _ _ _ _) (Nat.le_trans (Octs.rInt_size _ _) (Nat.le_trans (tkI_size _ _) h0))
  · exact Nat.le_trans (snd_size _ _ _ _ _) h0
theorem tkC_inv (s : ByteArray) (b : Bool) : inv ((tkC s b).2.1, (tkC s b).2.2) := by
  unfold tkC fin
  simp only
  split
  · exact snd_inv _ _ _ _ _
  split
  · exact snd_inv _ _ _ _ _
  split
  · exact snd_inv _ _ _ _ _
  split
  · exact snd_inv _ _ _ _ _
  · exact snd_inv _ _ _ _ _
theorem fin_raw (k : Int) (i : IdR) (s : ByteArray) (b : Bool) : fin ⟨k, i, (tkR s b).1, 0⟩ (tkR s b).2.1 (tkR s b).2.2 = fin ⟨k, i, (rawR s b).1, 0⟩ (rawR s b).2.1 (rawR s b).2.2 := by
  unfold tkR
  generalize rawR s b = t
  obtain ⟨r, s', b'⟩ := t
  cases b' <;> rfl
end Go.Proofs.YtpdlgflbcgemnaaGreatDoor
