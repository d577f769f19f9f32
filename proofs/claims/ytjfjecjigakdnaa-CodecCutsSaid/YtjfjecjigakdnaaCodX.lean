/- codec: the reference's takeRest: walk. -/
import Derived.Test.YtjfjecjigakdnaaGh
import Derived.Deep.CutBlock
import Derived.Deep.DeepCutAuto
set_option linter.unusedSimpArgs false
set_option linter.unusedVariables false
namespace Go.Proofs.Ytjfjecjigakdnaa
open Go.RowKit
set_option maxRecDepth 100000
set_option maxHeartbeats 1000000
theorem rInt_bad (s : ByteArray) (b : Bool) : (Octs.rInt s b).2.2 = true → (Octs.rInt s b).1 = 0 := by
  unfold Octs.rInt
  split
  · intro _; rfl
  · split
    · intro h; cases h
    · intro _; rfl
section
variable {W wx : World} {N : Nat} {s : ByteArray} {b : Bool} {l : List Asn}
theorem fill_parts (t0 : BdR × ByteArray × Bool) (m : Int) : fillB t0 (offs m 7) =
    (fun t => if bitB m 16 then stepB t 10 else t) ((fun t => if bitB m 8 then stepB t 9 else t) ((fun t => if bitB m 4 then stepB t 8 else t) ((fun t => if bitB m 2 then stepB (stepB t 6) 7 else t) ((fun t => if bitB m 1 then stepB (stepB t 4) 5 else t) t0)))) := by
  unfold fillB offs crows
  cases h1 : bitB m 1 <;> cases h2 : bitB m 2 <;> cases h4 : bitB m 4 <;> cases h8 : bitB m 8 <;> cases h16 : bitB m 16 <;> simp [List.filter, h1, h2, h4, h8, h16]
/-- a state of a reader that is read on -/
def Sound (n : Nat) (m : Int) (t : BdR × ByteArray × Bool) : Prop := t.2.1.size ≤ n ∧ inv (t.2.1, t.2.2) ∧ t.1.mask = m
theorem Sound.step {n : Nat} {m : Int} {t : BdR × ByteArray × Bool} (h : Sound n m t) (o : Nat) : Sound n m (stepB t o) := by
  obtain ⟨h1, h2, h3⟩ := h
  refine ⟨Nat.le_trans (Octs.rInt_size _ _) h1, rInt_inv2 _ _ h2, ?_⟩
  rw [← h3]
  unfold stepB setF
  split <;> rfl
theorem refRdStep {n : Nat} {m : Int} {wz : World} {t : BdR × ByteArray × Bool} {l' : List Asn} (hn : n ≤ 281474976710656) (ht : Sound n m t) (O : Own W wz (Octs.rdA N t.2.1 t.2.2 :: l')) (o : Nat) :
    Calls Try.prog 56 #[Octs.rdV N] wz (fun e w' => ∃ x, e = .returned (nI x) ∧ (stepB t o).1 = setF t.1 o x ∧ Own W w' (Octs.rdA N (stepB t o).2.1 (stepB t o).2.2 :: l')) :=
  (Octs.refRdInt_O O (Nat.le_trans ht.1 hn) ht.2.1).mono fun e w' h => ⟨_, h.1, rfl, h.2⟩
theorem refTakeRest_O (h : Own W wx (Octs.rdA N s b :: l)) (hs : s.size ≤ 281474976710656) (hb : inv (s, b)) : Calls Try.prog 62 #[Octs.rdV N] wx (OwnTo W (rawR s b).1.v (Octs.rdA N (rawR s b).2.1 (rawR s b).2.2 :: l)) := by
  have z1 := Octs.rInt_size s b
  have i1 := rInt_inv2 s b hb
  have g1 := rInt_bad s b
  have O0 := h.newCells [nI 0, nI 0, nI 0, nI 0, nI 0, nI 0, nI 0, nI 0, nI 0, nI 0, nI 0] 25
  obtain ⟨w0, hw0⟩ : ∃ q, wx.alloc (.cells #[nI 0, nI 0, nI 0, nI 0, nI 0, nI 0, nI 0, nI 0, nI 0, nI 0, nI 0] 25) = q := ⟨_, rfl⟩
  rw [hw0] at O0
  have k1 := Octs.refRdInt_O O0.rot1 hs hb
  have hV : rawR s b = rawR s b := rfl
  conv at hV => rhs; unfold rawR
  generalize rawR s b = V at *
  rcases h1 : Octs.rInt s b with ⟨m, s1, b1⟩
  rw [h1] at k1 z1 i1 g1 hV
  simp only at k1 z1 g1 hV
  obtain ⟨t0, ht0⟩ : ∃ t : BdR × ByteArray × Bool, t = (⟨⟨0, 0, 0⟩, m, 0, 0, 0, 0, 0, 0, 0⟩, s1, b1) := ⟨_, rfl⟩
  rw [← ht0, fill_parts] at hV
  have S0 : Sound s.size m t0 := by rw [ht0]; exact ⟨z1, i1, rfl⟩
  replace k1 : RowKit.Hid (Calls Try.prog 56 #[Octs.rdV N] w0 (OwnTo W (nI m) (Octs.rdA N s1 b1 :: cellsA wx.heap.size [nI 0, nI 0, nI 0, nI 0, nI 0, nI 0, nI 0, nI 0, nI 0, nI 0, nI 0] :: l))) := Lib.hid k1
  replace hw0 := Lib.hid hw0
  replace hV := Lib.hid hV
  replace i1 := Lib.hid i1
  replace g1 := Lib.hid g1
  replace ht0 := Lib.hid ht0
  replace S0 := Lib.hid S0
  clear h1 z1 O0 h hb
  go_enter Try.func62, Try.ntmps62
  go_upto_region 1 with fail
  rw [hw0.out]
  clear hw0
  generalize wx.heap.size = R0 at *
  go_upto_region 2 with (go_at_call 56; (with_reducible refine k1.out.mono ?_); clear k1; rintro e w1 ⟨rfl, P1⟩)
  have O1 := (P1.newCells [nI 0, nI 0, nI 0, nI m, nI 0, nI 0, nI 0, nI 0, nI 0, nI 0, nI 0] 25).rot1
  obtain ⟨w2, hw2⟩ : ∃ q, w1.alloc (.cells #[nI 0, nI 0, nI 0, nI m, nI 0, nI 0, nI 0, nI 0, nI 0, nI 0, nI 0] 25) = q := ⟨_, rfl⟩
  rw [hw2] at O1
  rw [hw2]
  clear hw2 P1
  generalize w1.heap.size = B at *
  obtain ⟨lQ, qQ, fQx⟩ := O1.cells 1 rfl
  have x0 := qQ 0 (by simp)
  have x1 := qQ 1 (by simp)
  have x2 := qQ 2 (by simp)
  have x3 := qQ 3 (by simp)
  have x4 := qQ 4 (by simp)
  have x5 := qQ 5 (by simp)
  have x6 := qQ 6 (by simp)
  have x7 := qQ 7 (by simp)
  have x8 := qQ 8 (by simp)
  have x9 := qQ 9 (by simp)
  have x10 := qQ 10 (by simp)
  simp only [List.getElem?_cons_succ, List.getElem?_cons_zero] at x0 x1 x2 x3 x4 x5 x6 x7 x8 x9 x10
  haveI : InW B w2 := ⟨lQ⟩
  clear qQ lQ
  clear fQx
  obtain ⟨lt, c0, c1, f0, f1⟩ := Octs.Own.rd 0 O1 rfl
  haveI : InW N w2 := ⟨lt⟩
  clear lt
  by_cases hbad : b1 = true ∨ m < 0 ∨ 31 < m
  · obtain rfl : V = (bdZ, ⟨#[]⟩, true) := by
      rw [hV.out]
      by_cases hm : m < 0 ∨ 31 < m
      · rw [if_pos hm]
      · have hb1 : b1 = true := by
          rcases hbad with h | h
          · exact h
          · exact absurd h hm
        have hm0 := g1.out hb1
        have hs1 := i1.out hb1
        simp only at hs1
        rw [if_neg hm, ht0.out, hm0, hb1, hs1]
        decide +kernel
    clear hV ht0 S0 i1 g1
    simp only
    have kB := Lib.hid (refBad_O O1)
    replace O1 := Lib.hid O1
    cases b1 with
    | true =>
      clear hbad
      go_upto_region 4 with (go_at_call 57; (with_reducible refine kB.out.mono ?_); rintro e w6 ⟨rfl, O6⟩; clear kB O1 x0 x1 x2 x3 x4 x5 x6 x7 x8 x9 x10 c0 c1 f0 f1; obtain ⟨lQ, qQ, fQr⟩ := O6.cells 2 rfl; have r0 := qQ 0 (by simp); have r1 := qQ 1 (by simp); have r2 := qQ 2 (by simp); have r3 := qQ 3 (by simp); have r4 := qQ 4 (by simp); have r5 := qQ 5 (by simp); have r6 := qQ 6 (by simp); have r7 := qQ 7 (by simp); have r8 := qQ 8 (by simp); have r9 := qQ 9 (by simp); have r10 := qQ 10 (by simp); simp only [List.getElem?_cons_succ, List.getElem?_cons_zero] at r0 r1 r2 r3 r4 r5 r6 r7 r8 r9 r10; haveI : InW R0 w6 := ⟨lQ⟩; clear qQ lQ; replace O6 := Lib.hid O6)
      go_wp2_with fail
      have OZ := (((((((((((O6.out.setCellAt 2 0 (nI 0) rfl (by simp)).setCellAt 2 1 (nI 0) rfl (by simp)).setCellAt 2 2 (nI 0) rfl (by simp)).setCellAt 2 3 (nI 0) rfl (by simp)).setCellAt 2 4 (nI 0) rfl (by simp)).setCellAt 2 5 (nI 0) rfl (by simp)).setCellAt 2 6 (nI 0) rfl (by simp)).setCellAt 2 7 (nI 0) rfl (by simp)).setCellAt 2 8 (nI 0) rfl (by simp)).setCellAt 2 9 (nI 0) rfl (by simp)).setCellAt 2 10 (nI 0) rfl (by simp))
      simp only [List.set_cons_succ, List.set_cons_zero] at OZ
      clear O6 fQr r0 r1 r2 r3 r4 r5 r6 r7 r8 r9 r10
      obtain ⟨wf, hwf⟩ : ∃ q, (((((((((((w6.setCell ⟨R0, 0, none⟩ (nI 0)).setCell ⟨R0, 1, none⟩ (nI 0)).setCell ⟨R0, 2, none⟩ (nI 0)).setCell ⟨R0, 3, none⟩ (nI 0)).setCell ⟨R0, 4, none⟩ (nI 0)).setCell ⟨R0, 5, none⟩ (nI 0)).setCell ⟨R0, 6, none⟩ (nI 0)).setCell ⟨R0, 7, none⟩ (nI 0)).setCell ⟨R0, 8, none⟩ (nI 0)).setCell ⟨R0, 9, none⟩ (nI 0)).setCell ⟨R0, 10, none⟩ (nI 0)) = q := ⟨_, rfl⟩
      rw [hwf] at OZ
      refine Eq.mpr (congrArg (bodyPost _ _ _ _ _) hwf) ?_
      clear hwf
      obtain ⟨-, q9, -⟩ := OZ.cells 2 rfl
      have r0 := q9 0 (by simp)
      have r1 := q9 1 (by simp)
      have r2 := q9 2 (by simp)
      have r3 := q9 3 (by simp)
      have r4 := q9 4 (by simp)
      have r5 := q9 5 (by simp)
      have r6 := q9 6 (by simp)
      have r7 := q9 7 (by simp)
      have r8 := q9 8 (by simp)
      have r9 := q9 9 (by simp)
      have r10 := q9 10 (by simp)
      simp only [List.getElem?_cons_succ, List.getElem?_cons_zero] at r0 r1 r2 r3 r4 r5 r6 r7 r8 r9 r10
      clear q9
      exact bodyPost_ret (v := bdZ.v) (by simp [results, Try.results62, go_sem, *]) rfl ⟨rfl, (OZ.rot1.drop.rot1.drop)⟩
    | false =>
      by_cases hm0 : m < 0
      · clear hbad
        go_upto_region 4 with (go_at_call 57; (with_reducible refine kB.out.mono ?_); rintro e w6 ⟨rfl, O6⟩; clear kB O1 x0 x1 x2 x3 x4 x5 x6 x7 x8 x9 x10 c0 c1 f0 f1; obtain ⟨lQ, qQ, fQr⟩ := O6.cells 2 rfl; have r0 := qQ 0 (by simp); have r1 := qQ 1 (by simp); have r2 := qQ 2 (by simp); have r3 := qQ 3 (by simp); have r4 := qQ 4 (by simp); have r5 := qQ 5 (by simp); have r6 := qQ 6 (by simp); have r7 := qQ 7 (by simp); have r8 := qQ 8 (by simp); have r9 := qQ 9 (by simp); have r10 := qQ 10 (by simp); simp only [List.getElem?_cons_succ, List.getElem?_cons_zero] at r0 r1 r2 r3 r4 r5 r6 r7 r8 r9 r10; haveI : InW R0 w6 := ⟨lQ⟩; clear qQ lQ; replace O6 := Lib.hid O6)
        go_wp2_with fail
        have OZ := (((((((((((O6.out.setCellAt 2 0 (nI 0) rfl (by simp)).setCellAt 2 1 (nI 0) rfl (by simp)).setCellAt 2 2 (nI 0) rfl (by simp)).setCellAt 2 3 (nI 0) rfl (by simp)).setCellAt 2 4 (nI 0) rfl (by simp)).setCellAt 2 5 (nI 0) rfl (by simp)).setCellAt 2 6 (nI 0) rfl (by simp)).setCellAt 2 7 (nI 0) rfl (by simp)).setCellAt 2 8 (nI 0) rfl (by simp)).setCellAt 2 9 (nI 0) rfl (by simp)).setCellAt 2 10 (nI 0) rfl (by simp))
        simp only [List.set_cons_succ, List.set_cons_zero] at OZ
        clear O6 fQr r0 r1 r2 r3 r4 r5 r6 r7 r8 r9 r10
        obtain ⟨wf, hwf⟩ : ∃ q, (((((((((((w6.setCell ⟨R0, 0, none⟩ (nI 0)).setCell ⟨R0, 1, none⟩ (nI 0)).setCell ⟨R0, 2, none⟩ (nI 0)).setCell ⟨R0, 3, none⟩ (nI 0)).setCell ⟨R0, 4, none⟩ (nI 0)).setCell ⟨R0, 5, none⟩ (nI 0)).setCell ⟨R0, 6, none⟩ (nI 0)).setCell ⟨R0, 7, none⟩ (nI 0)).setCell ⟨R0, 8, none⟩ (nI 0)).setCell ⟨R0, 9, none⟩ (nI 0)).setCell ⟨R0, 10, none⟩ (nI 0)) = q := ⟨_, rfl⟩
        rw [hwf] at OZ
        refine Eq.mpr (congrArg (bodyPost _ _ _ _ _) hwf) ?_
        clear hwf
        obtain ⟨-, q9, -⟩ := OZ.cells 2 rfl
        have r0 := q9 0 (by simp)
        have r1 := q9 1 (by simp)
        have r2 := q9 2 (by simp)
        have r3 := q9 3 (by simp)
        have r4 := q9 4 (by simp)
        have r5 := q9 5 (by simp)
        have r6 := q9 6 (by simp)
        have r7 := q9 7 (by simp)
        have r8 := q9 8 (by simp)
        have r9 := q9 9 (by simp)
        have r10 := q9 10 (by simp)
        simp only [List.getElem?_cons_succ, List.getElem?_cons_zero] at r0 r1 r2 r3 r4 r5 r6 r7 r8 r9 r10
        clear q9
        exact bodyPost_ret (v := bdZ.v) (by simp [results, Try.results62, go_sem, *]) rfl ⟨rfl, (OZ.rot1.drop.rot1.drop)⟩
      · have hm1 : 31 < m := by
          rcases hbad with h | h | h
          · cases h
          · exact absurd h hm0
          · exact h
        clear hbad
        go_upto_region 4 with (go_at_call 57; (with_reducible refine kB.out.mono ?_); rintro e w6 ⟨rfl, O6⟩; clear kB O1 x0 x1 x2 x3 x4 x5 x6 x7 x8 x9 x10 c0 c1 f0 f1; obtain ⟨lQ, qQ, fQr⟩ := O6.cells 2 rfl; have r0 := qQ 0 (by simp); have r1 := qQ 1 (by simp); have r2 := qQ 2 (by simp); have r3 := qQ 3 (by simp); have r4 := qQ 4 (by simp); have r5 := qQ 5 (by simp); have r6 := qQ 6 (by simp); have r7 := qQ 7 (by simp); have r8 := qQ 8 (by simp); have r9 := qQ 9 (by simp); have r10 := qQ 10 (by simp); simp only [List.getElem?_cons_succ, List.getElem?_cons_zero] at r0 r1 r2 r3 r4 r5 r6 r7 r8 r9 r10; haveI : InW R0 w6 := ⟨lQ⟩; clear qQ lQ; replace O6 := Lib.hid O6)
        go_wp2_with fail
        have OZ := (((((((((((O6.out.setCellAt 2 0 (nI 0) rfl (by simp)).setCellAt 2 1 (nI 0) rfl (by simp)).setCellAt 2 2 (nI 0) rfl (by simp)).setCellAt 2 3 (nI 0) rfl (by simp)).setCellAt 2 4 (nI 0) rfl (by simp)).setCellAt 2 5 (nI 0) rfl (by simp)).setCellAt 2 6 (nI 0) rfl (by simp)).setCellAt 2 7 (nI 0) rfl (by simp)).setCellAt 2 8 (nI 0) rfl (by simp)).setCellAt 2 9 (nI 0) rfl (by simp)).setCellAt 2 10 (nI 0) rfl (by simp))
        simp only [List.set_cons_succ, List.set_cons_zero] at OZ
        clear O6 fQr r0 r1 r2 r3 r4 r5 r6 r7 r8 r9 r10
        obtain ⟨wf, hwf⟩ : ∃ q, (((((((((((w6.setCell ⟨R0, 0, none⟩ (nI 0)).setCell ⟨R0, 1, none⟩ (nI 0)).setCell ⟨R0, 2, none⟩ (nI 0)).setCell ⟨R0, 3, none⟩ (nI 0)).setCell ⟨R0, 4, none⟩ (nI 0)).setCell ⟨R0, 5, none⟩ (nI 0)).setCell ⟨R0, 6, none⟩ (nI 0)).setCell ⟨R0, 7, none⟩ (nI 0)).setCell ⟨R0, 8, none⟩ (nI 0)).setCell ⟨R0, 9, none⟩ (nI 0)).setCell ⟨R0, 10, none⟩ (nI 0)) = q := ⟨_, rfl⟩
        rw [hwf] at OZ
        refine Eq.mpr (congrArg (bodyPost _ _ _ _ _) hwf) ?_
        clear hwf
        obtain ⟨-, q9, -⟩ := OZ.cells 2 rfl
        have r0 := q9 0 (by simp)
        have r1 := q9 1 (by simp)
        have r2 := q9 2 (by simp)
        have r3 := q9 3 (by simp)
        have r4 := q9 4 (by simp)
        have r5 := q9 5 (by simp)
        have r6 := q9 6 (by simp)
        have r7 := q9 7 (by simp)
        have r8 := q9 8 (by simp)
        have r9 := q9 9 (by simp)
        have r10 := q9 10 (by simp)
        simp only [List.getElem?_cons_succ, List.getElem?_cons_zero] at r0 r1 r2 r3 r4 r5 r6 r7 r8 r9 r10
        clear q9
        exact bodyPost_ret (v := bdZ.v) (by simp [results, Try.results62, go_sem, *]) rfl ⟨rfl, (OZ.rot1.drop.rot1.drop)⟩
  · obtain rfl : b1 = false := by
      cases b1 with
      | true => exact absurd (.inl rfl) hbad
      | false => rfl
    have hm0 : ¬ m < 0 := fun h => hbad (.inr (.inl h))
    have hm1 : ¬ 31 < m := fun h => hbad (.inr (.inr h))
    replace hV : RowKit.Hid (V = _) := Lib.hid (hV.out.trans (if_neg (fun h => hbad (.inr h))))
    clear hbad i1 g1
    have kB := fun (p : Int) (hp : p = 1 ∨ p = 2 ∨ p = 4 ∨ p = 8 ∨ p = 16) (w' : World) => bit_any m p w' (by omega) (by omega) hp
    have k1 := fun w' => kB 1 (by simp) w'
    obtain ⟨q1, g1⟩ : ∃ t, t = bitB m 1 := ⟨_, rfl⟩
    rw [← g1] at k1; replace hV := hV.out; rw [← g1] at hV
    replace k1 := Lib.hid k1
    have k2 := fun w' => kB 2 (by simp) w'
    obtain ⟨q2, g2⟩ : ∃ t, t = bitB m 2 := ⟨_, rfl⟩
    rw [← g2] at k2 hV
    replace k2 := Lib.hid k2
    have k4 := fun w' => kB 4 (by simp) w'
    obtain ⟨q4, g4⟩ : ∃ t, t = bitB m 4 := ⟨_, rfl⟩
    rw [← g4] at k4 hV
    replace k4 := Lib.hid k4
    have k8 := fun w' => kB 8 (by simp) w'
    obtain ⟨q8, g8⟩ : ∃ t, t = bitB m 8 := ⟨_, rfl⟩
    rw [← g8] at k8 hV
    replace k8 := Lib.hid k8
    have k16 := fun w' => kB 16 (by simp) w'
    obtain ⟨q16, g16⟩ : ∃ t, t = bitB m 16 := ⟨_, rfl⟩
    rw [← g16] at k16 hV
    replace k16 := Lib.hid k16
    clear kB g1 g2 g4 g8 g16
    obtain ⟨t1, ht1⟩ : ∃ t, t = if q1 = true then stepB (stepB (t0) 4) 5 else t0 := ⟨_, rfl⟩
    obtain ⟨t2, ht2⟩ : ∃ t, t = if q2 = true then stepB (stepB (t1) 6) 7 else t1 := ⟨_, rfl⟩
    obtain ⟨t3, ht3⟩ : ∃ t, t = if q4 = true then stepB (t2) 8 else t2 := ⟨_, rfl⟩
    obtain ⟨t4, ht4⟩ : ∃ t, t = if q8 = true then stepB (t3) 9 else t3 := ⟨_, rfl⟩
    obtain ⟨t5, ht5⟩ : ∃ t, t = if q16 = true then stepB (t4) 10 else t4 := ⟨_, rfl⟩
    replace hV : RowKit.Hid (V = t5) := by
      refine Lib.hid (hV.trans ?_)
      rw [ht5, ht4, ht3, ht2, ht1]
    have S1 : Sound s.size m t1 := by
      rw [ht1]
      split
      · exact (S0.out.step 4).step 5
      · exact S0.out
    replace S1 := Lib.hid S1
    have S2 : Sound s.size m t2 := by
      rw [ht2]
      split
      · exact (S1.out.step 6).step 7
      · exact S1.out
    replace S2 := Lib.hid S2
    have S3 : Sound s.size m t3 := by
      rw [ht3]
      split
      · exact S2.out.step 8
      · exact S2.out
    replace S3 := Lib.hid S3
    have S4 : Sound s.size m t4 := by
      rw [ht4]
      split
      · exact S3.out.step 9
      · exact S3.out
    replace S4 := Lib.hid S4
    have S5 : Sound s.size m t5 := by
      rw [ht5]
      split
      · exact S4.out.step 10
      · exact S4.out
    replace S5 := Lib.hid S5
    replace ht1 := Lib.hid ht1
    replace ht2 := Lib.hid ht2
    replace ht3 := Lib.hid ht3
    replace ht4 := Lib.hid ht4
    replace ht5 := Lib.hid ht5
    replace O1 : Own W w2 (Octs.rdA N t0.2.1 t0.2.2 :: cellsA B t0.1.cs :: cellsA R0 [nI 0, nI 0, nI 0, nI 0, nI 0, nI 0, nI 0, nI 0, nI 0, nI 0, nI 0] :: l) := by rw [ht0.out]; exact O1
    clear ht0
    clear x0 x1 x2 x4 x5 x6 x7 x8 x9 x10
    replace O1 := Lib.hid O1
    go_upto_if 26 with (go_at_call 89; (with_reducible refine (k1.out _).mono ?_); rintro e w' ⟨rfl, ey, rfl⟩)
    go_cut [] (fun wz => Own W wz (Octs.rdA N t1.2.1 t1.2.2 :: cellsA B t1.1.cs :: cellsA R0 [nI 0, nI 0, nI 0, nI 0, nI 0, nI 0, nI 0, nI 0, nI 0, nI 0, nI 0] :: l))
    case first =>
      have hq := ht1.out
      have O2 := O1.out.plus ey
      clear x3
      cases q1 with
      | false =>
        simp only [Bool.false_eq_true, if_false] at hq
        replace hq := Lib.hid hq
        replace O2 := Lib.hid O2
        go_wp2_with fail
        go_meet
        rw [hq.out]
        exact O2.out
      | true =>
        simp only [if_true] at hq
        replace hq := Lib.hid hq
        have kR := Lib.hid (refRdStep hs (S0.out) O2 4)
        go_upto_region 7 with (go_at_call 56; (with_reducible refine kR.out.mono ?_); clear kR; rintro e v0 ⟨y0, rfl, hx0, P0⟩; replace hx0 := Lib.hid hx0; obtain ⟨lQ, qQ, fQ⟩ := P0.cells 1 rfl; have x4 := qQ 4 (by simp); have f4 := fQ 4; simp only [List.getElem?_cons_succ, List.getElem?_cons_zero] at x4; haveI : InW B _ := ⟨lQ⟩; clear qQ fQ lQ; replace P0 := Lib.hid P0)
        have O30 : Own W (v0.setCell ⟨B, 4, none⟩ (nI y0)) (Octs.rdA N (stepB (t0) 4).2.1 (stepB (t0) 4).2.2 :: cellsA B (stepB (t0) 4).1.cs :: cellsA R0 [nI 0, nI 0, nI 0, nI 0, nI 0, nI 0, nI 0, nI 0, nI 0, nI 0, nI 0] :: l) := by
          rw [hx0.out, setF_cs _ _ _ (by omega)]
          exact P0.out.setCellAt 1 4 (nI y0) rfl (by simp)
        obtain ⟨u0, hu0⟩ : ∃ q, v0.setCell ⟨B, 4, none⟩ (nI y0) = q := ⟨_, rfl⟩
        rw [hu0] at O30
        try rw [hu0]
        clear hu0 hx0 P0 x4 f4
        have kR := Lib.hid (refRdStep hs ((S0.out).step 4) O30 5)
        go_wp2_with (go_at_call 56; (with_reducible refine kR.out.mono ?_); clear kR; rintro e v1 ⟨y1, rfl, hx1, P1⟩; replace hx1 := Lib.hid hx1; obtain ⟨lQ, qQ, fQ⟩ := P1.cells 1 rfl; have x5 := qQ 5 (by simp); have f5 := fQ 5; simp only [List.getElem?_cons_succ, List.getElem?_cons_zero] at x5; haveI : InW B _ := ⟨lQ⟩; clear qQ fQ lQ; replace P1 := Lib.hid P1)
        have O31 : Own W (v1.setCell ⟨B, 5, none⟩ (nI y1)) (Octs.rdA N (stepB (stepB (t0) 4) 5).2.1 (stepB (stepB (t0) 4) 5).2.2 :: cellsA B (stepB (stepB (t0) 4) 5).1.cs :: cellsA R0 [nI 0, nI 0, nI 0, nI 0, nI 0, nI 0, nI 0, nI 0, nI 0, nI 0, nI 0] :: l) := by
          rw [hx1.out, setF_cs _ _ _ (by omega)]
          exact P1.out.setCellAt 1 5 (nI y1) rfl (by simp)
        go_meet
        rw [hq.out]
        exact O31
    clear x3 O1 k1 ht1 S0
    clear c0 c1 f0 f1
    obtain ⟨lQ, qQ, fQ⟩ := hcut.cells 1 rfl
    have x3 := qQ 3 (by simp)
    simp only [List.getElem?_cons_succ, List.getElem?_cons_zero, S1.out.2.2] at x3
    haveI : InW B _ := ⟨lQ⟩
    clear qQ fQ lQ
    replace hcut := Lib.hid hcut
    go_upto_if 35 with (go_at_call 89; (with_reducible refine (k2.out _).mono ?_); rintro e w' ⟨rfl, ey, rfl⟩)
    go_cut [] (fun wz => Own W wz (Octs.rdA N t2.2.1 t2.2.2 :: cellsA B t2.1.cs :: cellsA R0 [nI 0, nI 0, nI 0, nI 0, nI 0, nI 0, nI 0, nI 0, nI 0, nI 0, nI 0] :: l))
    case first =>
      have hq := ht2.out
      have O2 := hcut.out.plus ey
      clear x3
      cases q2 with
      | false =>
        simp only [Bool.false_eq_true, if_false] at hq
        replace hq := Lib.hid hq
        replace O2 := Lib.hid O2
        go_wp2_with fail
        go_meet
        rw [hq.out]
        exact O2.out
      | true =>
        simp only [if_true] at hq
        replace hq := Lib.hid hq
        have kR := Lib.hid (refRdStep hs (S1.out) O2 6)
        go_upto_region 10 with (go_at_call 56; (with_reducible refine kR.out.mono ?_); clear kR; rintro e v0 ⟨y0, rfl, hx0, P0⟩; replace hx0 := Lib.hid hx0; obtain ⟨lQ, qQ, fQ⟩ := P0.cells 1 rfl; have x6 := qQ 6 (by simp); have f6 := fQ 6; simp only [List.getElem?_cons_succ, List.getElem?_cons_zero] at x6; haveI : InW B _ := ⟨lQ⟩; clear qQ fQ lQ; replace P0 := Lib.hid P0)
        have O30 : Own W (v0.setCell ⟨B, 6, none⟩ (nI y0)) (Octs.rdA N (stepB (t1) 6).2.1 (stepB (t1) 6).2.2 :: cellsA B (stepB (t1) 6).1.cs :: cellsA R0 [nI 0, nI 0, nI 0, nI 0, nI 0, nI 0, nI 0, nI 0, nI 0, nI 0, nI 0] :: l) := by
          rw [hx0.out, setF_cs _ _ _ (by omega)]
          exact P0.out.setCellAt 1 6 (nI y0) rfl (by simp)
        obtain ⟨u0, hu0⟩ : ∃ q, v0.setCell ⟨B, 6, none⟩ (nI y0) = q := ⟨_, rfl⟩
        rw [hu0] at O30
        try rw [hu0]
        clear hu0 hx0 P0 x6 f6
        have kR := Lib.hid (refRdStep hs ((S1.out).step 6) O30 7)
        go_wp2_with (go_at_call 56; (with_reducible refine kR.out.mono ?_); clear kR; rintro e v1 ⟨y1, rfl, hx1, P1⟩; replace hx1 := Lib.hid hx1; obtain ⟨lQ, qQ, fQ⟩ := P1.cells 1 rfl; have x7 := qQ 7 (by simp); have f7 := fQ 7; simp only [List.getElem?_cons_succ, List.getElem?_cons_zero] at x7; haveI : InW B _ := ⟨lQ⟩; clear qQ fQ lQ; replace P1 := Lib.hid P1)
        have O31 : Own W (v1.setCell ⟨B, 7, none⟩ (nI y1)) (Octs.rdA N (stepB (stepB (t1) 6) 7).2.1 (stepB (stepB (t1) 6) 7).2.2 :: cellsA B (stepB (stepB (t1) 6) 7).1.cs :: cellsA R0 [nI 0, nI 0, nI 0, nI 0, nI 0, nI 0, nI 0, nI 0, nI 0, nI 0, nI 0] :: l) := by
          rw [hx1.out, setF_cs _ _ _ (by omega)]
          exact P1.out.setCellAt 1 7 (nI y1) rfl (by simp)
        go_meet
        rw [hq.out]
        exact O31
    clear x3  k2 ht2 S1
    obtain ⟨lQ, qQ, fQ⟩ := hcut.cells 1 rfl
    have x3 := qQ 3 (by simp)
    simp only [List.getElem?_cons_succ, List.getElem?_cons_zero, S2.out.2.2] at x3
    haveI : InW B _ := ⟨lQ⟩
    clear qQ fQ lQ
    replace hcut := Lib.hid hcut
    go_upto_if 44 with (go_at_call 89; (with_reducible refine (k4.out _).mono ?_); rintro e w' ⟨rfl, ey, rfl⟩)
    go_cut [] (fun wz => Own W wz (Octs.rdA N t3.2.1 t3.2.2 :: cellsA B t3.1.cs :: cellsA R0 [nI 0, nI 0, nI 0, nI 0, nI 0, nI 0, nI 0, nI 0, nI 0, nI 0, nI 0] :: l))
    case first =>
      have hq := ht3.out
      have O2 := hcut.out.plus ey
      clear x3
      cases q4 with
      | false =>
        simp only [Bool.false_eq_true, if_false] at hq
        replace hq := Lib.hid hq
        replace O2 := Lib.hid O2
        go_wp2_with fail
        go_meet
        rw [hq.out]
        exact O2.out
      | true =>
        simp only [if_true] at hq
        replace hq := Lib.hid hq
        have kR := Lib.hid (refRdStep hs (S2.out) O2 8)
        go_wp2_with (go_at_call 56; (with_reducible refine kR.out.mono ?_); clear kR; rintro e v0 ⟨y0, rfl, hx0, P0⟩; replace hx0 := Lib.hid hx0; obtain ⟨lQ, qQ, fQ⟩ := P0.cells 1 rfl; have x8 := qQ 8 (by simp); have f8 := fQ 8; simp only [List.getElem?_cons_succ, List.getElem?_cons_zero] at x8; haveI : InW B _ := ⟨lQ⟩; clear qQ fQ lQ; replace P0 := Lib.hid P0)
        have O30 : Own W (v0.setCell ⟨B, 8, none⟩ (nI y0)) (Octs.rdA N (stepB (t2) 8).2.1 (stepB (t2) 8).2.2 :: cellsA B (stepB (t2) 8).1.cs :: cellsA R0 [nI 0, nI 0, nI 0, nI 0, nI 0, nI 0, nI 0, nI 0, nI 0, nI 0, nI 0] :: l) := by
          rw [hx0.out, setF_cs _ _ _ (by omega)]
          exact P0.out.setCellAt 1 8 (nI y0) rfl (by simp)
        go_meet
        rw [hq.out]
        exact O30
    clear x3  k4 ht3 S2
    obtain ⟨lQ, qQ, fQ⟩ := hcut.cells 1 rfl
    have x3 := qQ 3 (by simp)
    simp only [List.getElem?_cons_succ, List.getElem?_cons_zero, S3.out.2.2] at x3
    haveI : InW B _ := ⟨lQ⟩
    clear qQ fQ lQ
    replace hcut := Lib.hid hcut
    go_upto_if 50 with (go_at_call 89; (with_reducible refine (k8.out _).mono ?_); rintro e w' ⟨rfl, ey, rfl⟩)
    go_cut [] (fun wz => Own W wz (Octs.rdA N t4.2.1 t4.2.2 :: cellsA B t4.1.cs :: cellsA R0 [nI 0, nI 0, nI 0, nI 0, nI 0, nI 0, nI 0, nI 0, nI 0, nI 0, nI 0] :: l))
    case first =>
      have hq := ht4.out
      have O2 := hcut.out.plus ey
      clear x3
      cases q8 with
      | false =>
        simp only [Bool.false_eq_true, if_false] at hq
        replace hq := Lib.hid hq
        replace O2 := Lib.hid O2
        go_wp2_with fail
        go_meet
        rw [hq.out]
        exact O2.out
      | true =>
        simp only [if_true] at hq
        replace hq := Lib.hid hq
        have kR := Lib.hid (refRdStep hs (S3.out) O2 9)
        go_wp2_with (go_at_call 56; (with_reducible refine kR.out.mono ?_); clear kR; rintro e v0 ⟨y0, rfl, hx0, P0⟩; replace hx0 := Lib.hid hx0; obtain ⟨lQ, qQ, fQ⟩ := P0.cells 1 rfl; have x9 := qQ 9 (by simp); have f9 := fQ 9; simp only [List.getElem?_cons_succ, List.getElem?_cons_zero] at x9; haveI : InW B _ := ⟨lQ⟩; clear qQ fQ lQ; replace P0 := Lib.hid P0)
        have O30 : Own W (v0.setCell ⟨B, 9, none⟩ (nI y0)) (Octs.rdA N (stepB (t3) 9).2.1 (stepB (t3) 9).2.2 :: cellsA B (stepB (t3) 9).1.cs :: cellsA R0 [nI 0, nI 0, nI 0, nI 0, nI 0, nI 0, nI 0, nI 0, nI 0, nI 0, nI 0] :: l) := by
          rw [hx0.out, setF_cs _ _ _ (by omega)]
          exact P0.out.setCellAt 1 9 (nI y0) rfl (by simp)
        go_meet
        rw [hq.out]
        exact O30
    clear x3  k8 ht4 S3
    obtain ⟨lQ, qQ, fQ⟩ := hcut.cells 1 rfl
    have x3 := qQ 3 (by simp)
    simp only [List.getElem?_cons_succ, List.getElem?_cons_zero, S4.out.2.2] at x3
    haveI : InW B _ := ⟨lQ⟩
    clear qQ fQ lQ
    replace hcut := Lib.hid hcut
    go_upto_if 56 with (go_at_call 89; (with_reducible refine (k16.out _).mono ?_); rintro e w' ⟨rfl, ey, rfl⟩)
    go_cut [] (fun wz => Own W wz (Octs.rdA N t5.2.1 t5.2.2 :: cellsA B t5.1.cs :: cellsA R0 [nI 0, nI 0, nI 0, nI 0, nI 0, nI 0, nI 0, nI 0, nI 0, nI 0, nI 0] :: l))
    case first =>
      have hq := ht5.out
      have O2 := hcut.out.plus ey
      clear x3
      cases q16 with
      | false =>
        simp only [Bool.false_eq_true, if_false] at hq
        replace hq := Lib.hid hq
        replace O2 := Lib.hid O2
        go_wp2_with fail
        go_meet
        rw [hq.out]
        exact O2.out
      | true =>
        simp only [if_true] at hq
        replace hq := Lib.hid hq
        have kR := Lib.hid (refRdStep hs (S4.out) O2 10)
        go_wp2_with (go_at_call 56; (with_reducible refine kR.out.mono ?_); clear kR; rintro e v0 ⟨y0, rfl, hx0, P0⟩; replace hx0 := Lib.hid hx0; obtain ⟨lQ, qQ, fQ⟩ := P0.cells 1 rfl; have x10 := qQ 10 (by simp); have f10 := fQ 10; simp only [List.getElem?_cons_succ, List.getElem?_cons_zero] at x10; haveI : InW B _ := ⟨lQ⟩; clear qQ fQ lQ; replace P0 := Lib.hid P0)
        have O30 : Own W (v0.setCell ⟨B, 10, none⟩ (nI y0)) (Octs.rdA N (stepB (t4) 10).2.1 (stepB (t4) 10).2.2 :: cellsA B (stepB (t4) 10).1.cs :: cellsA R0 [nI 0, nI 0, nI 0, nI 0, nI 0, nI 0, nI 0, nI 0, nI 0, nI 0, nI 0] :: l) := by
          rw [hx0.out, setF_cs _ _ _ (by omega)]
          exact P0.out.setCellAt 1 10 (nI y0) rfl (by simp)
        go_meet
        rw [hq.out]
        exact O30
    clear x3  k16 ht5 S4
    obtain ⟨⟨⟨v0, v1, v2⟩, v3, v4, v5, v6, v7, v8, v9, v10⟩, s6, b6⟩ := t5
    simp only at hcut
    clear S5
    obtain ⟨lQ, qQ, fQx⟩ := hcut.cells 1 rfl
    have x0 := qQ 0 (by simp)
    have x1 := qQ 1 (by simp)
    have x2 := qQ 2 (by simp)
    have x3 := qQ 3 (by simp)
    have x4 := qQ 4 (by simp)
    have x5 := qQ 5 (by simp)
    have x6 := qQ 6 (by simp)
    have x7 := qQ 7 (by simp)
    have x8 := qQ 8 (by simp)
    have x9 := qQ 9 (by simp)
    have x10 := qQ 10 (by simp)
    simp only [List.getElem?_cons_succ, List.getElem?_cons_zero] at x0 x1 x2 x3 x4 x5 x6 x7 x8 x9 x10
    haveI : InW B wc := ⟨lQ⟩
    clear qQ lQ
    clear fQx
    obtain ⟨lQ, qQ, fQr⟩ := hcut.cells 2 rfl
    have r0 := qQ 0 (by simp)
    have r1 := qQ 1 (by simp)
    have r2 := qQ 2 (by simp)
    have r3 := qQ 3 (by simp)
    have r4 := qQ 4 (by simp)
    have r5 := qQ 5 (by simp)
    have r6 := qQ 6 (by simp)
    have r7 := qQ 7 (by simp)
    have r8 := qQ 8 (by simp)
    have r9 := qQ 9 (by simp)
    have r10 := qQ 10 (by simp)
    simp only [List.getElem?_cons_succ, List.getElem?_cons_zero] at r0 r1 r2 r3 r4 r5 r6 r7 r8 r9 r10
    haveI : InW R0 wc := ⟨lQ⟩
    clear qQ lQ
    replace hcut := Lib.hid hcut
    go_wp2_with fail
    rw [hV.out]
    clear hV
    have OZ := (((((((((((hcut.out.setCellAt 2 0 (nI v0) rfl (by simp)).setCellAt 2 1 (nI v1) rfl (by simp)).setCellAt 2 2 (nI v2) rfl (by simp)).setCellAt 2 3 (nI v3) rfl (by simp)).setCellAt 2 4 (nI v4) rfl (by simp)).setCellAt 2 5 (nI v5) rfl (by simp)).setCellAt 2 6 (nI v6) rfl (by simp)).setCellAt 2 7 (nI v7) rfl (by simp)).setCellAt 2 8 (nI v8) rfl (by simp)).setCellAt 2 9 (nI v9) rfl (by simp)).setCellAt 2 10 (nI v10) rfl (by simp))
    simp only [List.set_cons_succ, List.set_cons_zero] at OZ
    clear hcut fQr r0 x0 r1 x1 r2 x2 r3 x3 r4 x4 r5 x5 r6 x6 r7 x7 r8 x8 r9 x9 r10 x10
    obtain ⟨wf, hwf⟩ : ∃ q, (((((((((((wc.setCell ⟨R0, 0, none⟩ (nI v0)).setCell ⟨R0, 1, none⟩ (nI v1)).setCell ⟨R0, 2, none⟩ (nI v2)).setCell ⟨R0, 3, none⟩ (nI v3)).setCell ⟨R0, 4, none⟩ (nI v4)).setCell ⟨R0, 5, none⟩ (nI v5)).setCell ⟨R0, 6, none⟩ (nI v6)).setCell ⟨R0, 7, none⟩ (nI v7)).setCell ⟨R0, 8, none⟩ (nI v8)).setCell ⟨R0, 9, none⟩ (nI v9)).setCell ⟨R0, 10, none⟩ (nI v10)) = q := ⟨_, rfl⟩
    rw [hwf] at OZ
    refine Eq.mpr (congrArg (bodyPost _ _ _ _ _) hwf) ?_
    clear hwf
    obtain ⟨-, q9, -⟩ := OZ.cells 2 rfl
    have r0 := q9 0 (by simp)
    have r1 := q9 1 (by simp)
    have r2 := q9 2 (by simp)
    have r3 := q9 3 (by simp)
    have r4 := q9 4 (by simp)
    have r5 := q9 5 (by simp)
    have r6 := q9 6 (by simp)
    have r7 := q9 7 (by simp)
    have r8 := q9 8 (by simp)
    have r9 := q9 9 (by simp)
    have r10 := q9 10 (by simp)
    simp only [List.getElem?_cons_succ, List.getElem?_cons_zero] at r0 r1 r2 r3 r4 r5 r6 r7 r8 r9 r10
    clear q9
    exact bodyPost_ret (v := .agg #[nI v0, nI v1, nI v2, nI v3, nI v4, nI v5, nI v6, nI v7, nI v8, nI v9, nI v10]) (by simp [results, Try.results62, go_sem, *]) rfl ⟨rfl, (OZ.rot1.drop.rot1.drop)⟩
end
end Go.Proofs.Ytjfjecjigakdnaa
