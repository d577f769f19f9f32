/- codec: readers: bad, sound, as: walks. -/
import Derived.Test.YtjfjecjigakdnaaCodTP
set_option linter.unusedSimpArgs false
set_option linter.unusedVariables false
namespace Go.Proofs.Ytjfjecjigakdnaa
open Go.RowKit
set_option maxRecDepth 100000
set_option maxHeartbeats 400000
theorem bad_any (w : World) (N : Nat) (s : ByteArray) (b : Bool) (h : Octs.RdAt w N s b) (hs : s.size ≤ 281474976710656) (hb : b = true → s = ⟨#[]⟩) : Calls Try.prog 67 #[Octs.rdV N] w fun e w' => e = .returned (.bool b) ∧ w.Plus w' := by
  have kL := Lib.hid (Octs.rdLeft w N s b h hs)
  have kD := fun wz (p : w.Plus wz) => Octs.rdDone wz N s b (h.plusP p)
  cases b with
  | true =>
    obtain rfl := hb rfl
    have hd : Octs.rDone ⟨#[]⟩ true = 2 := by decide +kernel
    rw [hd] at kD
    replace kD := Lib.hid kD
    have z : (((⟨#[]⟩ : ByteArray).size : Nat) : Int) = 0 := rfl
    rw [z] at kL
    clear hd z hb hs h
    go_enter Try.func67, Try.ntmps67
    go_wp2_with (first
      | (go_at_call 58; (with_reducible refine (kL.out).mono ?_); rintro e w' ⟨rfl, e1, rfl⟩)
      | (go_at_call 59; (with_reducible refine (kD.out _ (by (repeat (first | exact Plus.refl _ | apply Plus.plus | apply Plus.alloc | apply Plus.drew)))).mono ?_); rintro e w' ⟨rfl, e2, rfl⟩))
    go_ret
    exact ⟨rfl, by (repeat (first | exact Plus.refl _ | apply Plus.plus | apply Plus.alloc | apply Plus.drew))⟩
  | false =>
    by_cases hz : s.size = 0
    · obtain rfl : s = ⟨#[]⟩ := Octs.empty_of_size hz
      have hd : Octs.rDone ⟨#[]⟩ false = 0 := by decide +kernel
      rw [hd] at kD
      replace kD := Lib.hid kD
      have z : (((⟨#[]⟩ : ByteArray).size : Nat) : Int) = 0 := rfl
      rw [z] at kL
      clear hd z hz hb hs h
      go_enter Try.func67, Try.ntmps67
      go_wp2_with (first
        | (go_at_call 58; (with_reducible refine (kL.out).mono ?_); rintro e w' ⟨rfl, e1, rfl⟩)
        | (go_at_call 59; (with_reducible refine (kD.out _ (by (repeat (first | exact Plus.refl _ | apply Plus.plus | apply Plus.alloc | apply Plus.drew)))).mono ?_); rintro e w' ⟨rfl, e2, rfl⟩))
      go_ret
      exact ⟨rfl, by (repeat (first | exact Plus.refl _ | apply Plus.plus | apply Plus.alloc | apply Plus.drew))⟩
    · have q : ((s.size : Int) == 0) = false := by rw [beq_eq_false_iff_ne]; omega
      clear hb hs h kD hz
      go_enter Try.func67, Try.ntmps67
      go_wp2_with (go_at_call 58; (with_reducible refine (kL.out).mono ?_); rintro e w' ⟨rfl, e1, rfl⟩)
      go_ret
      exact ⟨rfl, by (repeat (first | exact Plus.refl _ | apply Plus.plus | apply Plus.alloc | apply Plus.drew))⟩
theorem refBad (w : World) (N : Nat) (s : ByteArray) (b : Bool) (h : Octs.RdAt w N s b) : Calls Try.prog 57 #[Octs.rdV N] w (Octs.RdPost w N (.tuple #[]) ⟨#[]⟩ true) := by
  have hr := h
  obtain ⟨lt, c0, c1, f0, f1⟩ := h
  haveI : InW N w := ⟨lt⟩
  replace hr := Lib.hid hr
  go_enter Try.func57, Try.ntmps57
  go_wp2_with fail
  go_end0
  exact ⟨rfl, (hr.out.set1 _).set0 _, ((Octs.Upd.refl _ _).setCell _ _).setCell _ _⟩
section
variable {W wx : World} {N : Nat} {s : ByteArray} {b : Bool} {l : List Asn}
theorem rdCount_O (h : Own W wx (Octs.rdA N s b :: l)) (hs : s.size ≤ 281474976710656) (most : Int) : Calls Try.prog 66 #[Octs.rdV N, nI most] wx (OwnTo W (nI (Octs.rCount s b most).1) (Octs.rdA N (Octs.rCount s b most).2.1 (Octs.rCount s b most).2.2 :: l)) :=
  Octs.rd_O h fun k => Octs.rdCount wx N s b most k hs
theorem spoil_O (h : Own W wx (Octs.rdA N s b :: l)) (hs : s.size ≤ 281474976710656) : Calls Try.prog 66 #[Octs.rdV N, nI (-1)] wx (OwnTo W (nI 0) (Octs.rdA N ⟨#[]⟩ true :: l)) := by
  have := rdCount_O h hs (-1)
  rw [rCount_neg] at this
  exact this
theorem refBad_O (h : Own W wx (Octs.rdA N s b :: l)) : Calls Try.prog 57 #[Octs.rdV N] wx (OwnTo W (.tuple #[]) (Octs.rdA N ⟨#[]⟩ true :: l)) :=
  Octs.rd_O h fun k => refBad wx N s b k
theorem bad_O (h : Own W wx l) (i : Nat) (hi : l[i]? = some (Octs.rdA N s b)) (hs : s.size ≤ 281474976710656) (hb : b = true → s = ⟨#[]⟩) : Calls Try.prog 67 #[Octs.rdV N] wx fun e w' => e = .returned (.bool b) ∧ wx.Plus w' := bad_any wx N s b (Octs.Own.rd i h hi) hs hb
theorem soundI_ok (h : Own W wx (Octs.rdA N s false :: l)) (hs : s.size ≤ 281474976710656) (x : IdR) : Calls Try.prog 55 #[Octs.rdV N, x.v, nI 0] wx (OwnTo W x.v (Octs.rdA N s false :: l)) := by
  have hb : True := trivial
  have O0 := h.newCells [nI x.s, nI x.i, nI x.g] 23
  have O1 := O0.newCells [nI 0, nI 0, nI 0] 23
  rw [World.size_alloc] at O1
  obtain ⟨w1, hw1⟩ : ∃ q, (wx.alloc (.cells #[nI x.s, nI x.i, nI x.g] 23)).alloc (.cells #[nI 0, nI 0, nI 0] 23) = q := ⟨_, rfl⟩
  replace O1 : Own W w1 (cellsA (wx.heap.size + 1) [nI 0, nI 0, nI 0] :: cellsA wx.heap.size [nI x.s, nI x.i, nI x.g] :: Octs.rdA N s false :: l) := by rw [← hw1]; exact O1
  have kB := Lib.hid (fun wz (p : w1.Plus wz) => bad_O (Own.atP O1 wz p) 2 rfl hs (by simp [hb]))
  clear O0 h
  go_enter Try.func55, Try.ntmps55
  go_upto_region 1 with fail
  try rw [hw1]
  clear hw1
  generalize wx.heap.size = B at *
  go_upto_region 5 with (go_at_call 67; (with_reducible refine (kB.out _ (by (repeat (first | exact Plus.refl _ | apply Plus.plus | apply Plus.alloc | apply Plus.drew)))).mono ?_); rintro e w' ⟨rfl, e1, rfl⟩)
  have O2 := O1.plus e1
  obtain ⟨w2, hw2⟩ : ∃ q, w1.plus e1 = q := ⟨_, rfl⟩
  rw [hw2] at O2 ⊢
  clear hw2 O1 kB
  obtain ⟨lQ, qQ, fQr⟩ := O2.cells 0 rfl
  have r0 := qQ 0 (by simp)
  have r1 := qQ 1 (by simp)
  have r2 := qQ 2 (by simp)
  simp only [List.getElem?_cons_succ, List.getElem?_cons_zero] at r0 r1 r2
  haveI : InW (B + 1) w2 := ⟨lQ⟩
  clear qQ lQ
  obtain ⟨lQ, qQ, fQx⟩ := O2.cells 1 rfl
  have x0 := qQ 0 (by simp)
  have x1 := qQ 1 (by simp)
  have x2 := qQ 2 (by simp)
  simp only [List.getElem?_cons_succ, List.getElem?_cons_zero] at x0 x1 x2
  haveI : InW B w2 := ⟨lQ⟩
  clear qQ lQ
  clear fQx
  replace O2 := Lib.hid O2
  go_wp2_with fail
  have O3 := ((((O2.out).setCellAt 0 0 (nI x.s) rfl (by simp)).setCellAt 0 1 (nI x.i) rfl (by simp)).setCellAt 0 2 (nI x.g) rfl (by simp))
  simp only [List.set_cons_succ, List.set_cons_zero] at O3
  clear O2 fQr r0 x0 r1 x1 r2 x2
  obtain ⟨wf, hwf⟩ : ∃ q, (((w2.setCell ⟨B + 1, 0, none⟩ (nI x.s)).setCell ⟨B + 1, 1, none⟩ (nI x.i)).setCell ⟨B + 1, 2, none⟩ (nI x.g)) = q := ⟨_, rfl⟩
  rw [hwf] at O3
  refine Eq.mpr (congrArg (bodyPost _ _ _ _ _) hwf) ?_
  clear hwf
  obtain ⟨-, q9, -⟩ := O3.cells 0 rfl
  have r0 := q9 0 (by simp)
  have r1 := q9 1 (by simp)
  have r2 := q9 2 (by simp)
  simp only [List.getElem?_cons_succ, List.getElem?_cons_zero] at r0 r1 r2
  clear q9
  exact bodyPost_ret (v := x.v) (by simp [results, Try.results55, go_sem, *]) rfl ⟨rfl, (O3.drop).drop⟩
theorem soundI_bad1 (h : Own W wx (Octs.rdA N s true :: l)) (hs : s.size ≤ 281474976710656) (hb : s = ⟨#[]⟩) (x : IdR) (e : Int) : Calls Try.prog 55 #[Octs.rdV N, x.v, nI e] wx (OwnTo W idZ.v (Octs.rdA N ⟨#[]⟩ true :: l)) := by
  have O0 := h.newCells [nI x.s, nI x.i, nI x.g] 23
  have O1 := O0.newCells [nI 0, nI 0, nI 0] 23
  rw [World.size_alloc] at O1
  obtain ⟨w1, hw1⟩ : ∃ q, (wx.alloc (.cells #[nI x.s, nI x.i, nI x.g] 23)).alloc (.cells #[nI 0, nI 0, nI 0] 23) = q := ⟨_, rfl⟩
  replace O1 : Own W w1 (cellsA (wx.heap.size + 1) [nI 0, nI 0, nI 0] :: cellsA wx.heap.size [nI x.s, nI x.i, nI x.g] :: Octs.rdA N s true :: l) := by rw [← hw1]; exact O1
  have kB := Lib.hid (fun wz (p : w1.Plus wz) => bad_O (Own.atP O1 wz p) 2 rfl hs (by simp [hb]))
  clear O0 h
  go_enter Try.func55, Try.ntmps55
  go_upto_region 1 with fail
  try rw [hw1]
  clear hw1
  generalize wx.heap.size = B at *
  go_upto_region 2 with (go_at_call 67; (with_reducible refine (kB.out _ (by (repeat (first | exact Plus.refl _ | apply Plus.plus | apply Plus.alloc | apply Plus.drew)))).mono ?_); rintro e w' ⟨rfl, e1, rfl⟩)
  have O2 := (O1.plus e1).pull 2 rfl
  obtain ⟨w2, hw2⟩ : ∃ q, w1.plus e1 = q := ⟨_, rfl⟩
  rw [hw2] at O2 ⊢
  have kS := Lib.hid (spoil_O O2 hs)
  clear hw2 O1 kB O2
  go_upto_region 3 with (go_at_call 66; (with_reducible refine (kS.out).mono ?_); rintro e w3 ⟨rfl, O4⟩)
  have O5 := (O4.pull 1 rfl).newCells [nI 0, nI 0, nI 0] 23
  obtain ⟨w4, hw4⟩ : ∃ q, w3.alloc (.cells #[nI 0, nI 0, nI 0] 23) = q := ⟨_, rfl⟩
  rw [hw4] at O5
  go_upto_region 4 with fail
  try rw [hw4]
  clear hw4
  generalize w3.heap.size = Z at *
  clear O4 kS
  obtain ⟨lQ, qQ, fQx⟩ := O5.cells 0 rfl
  have x0 := qQ 0 (by simp)
  have x1 := qQ 1 (by simp)
  have x2 := qQ 2 (by simp)
  simp only [List.getElem?_cons_succ, List.getElem?_cons_zero] at x0 x1 x2
  haveI : InW Z w4 := ⟨lQ⟩
  clear qQ lQ
  clear fQx
  obtain ⟨lQ, qQ, fQr⟩ := O5.cells 1 rfl
  have r0 := qQ 0 (by simp)
  have r1 := qQ 1 (by simp)
  have r2 := qQ 2 (by simp)
  simp only [List.getElem?_cons_succ, List.getElem?_cons_zero] at r0 r1 r2
  haveI : InW (B + 1) w4 := ⟨lQ⟩
  clear qQ lQ
  replace O5 := Lib.hid O5
  go_wp2_with fail
  have O6 := ((((O5.out).setCellAt 1 0 (nI 0) rfl (by simp)).setCellAt 1 1 (nI 0) rfl (by simp)).setCellAt 1 2 (nI 0) rfl (by simp))
  simp only [List.set_cons_succ, List.set_cons_zero] at O6
  clear O5 fQr r0 x0 r1 x1 r2 x2
  obtain ⟨wf, hwf⟩ : ∃ q, (((w4.setCell ⟨B + 1, 0, none⟩ (nI 0)).setCell ⟨B + 1, 1, none⟩ (nI 0)).setCell ⟨B + 1, 2, none⟩ (nI 0)) = q := ⟨_, rfl⟩
  rw [hwf] at O6
  refine Eq.mpr (congrArg (bodyPost _ _ _ _ _) hwf) ?_
  clear hwf
  obtain ⟨-, q9, -⟩ := O6.cells 1 rfl
  have r0 := q9 0 (by simp)
  have r1 := q9 1 (by simp)
  have r2 := q9 2 (by simp)
  simp only [List.getElem?_cons_succ, List.getElem?_cons_zero] at r0 r1 r2
  clear q9
  exact bodyPost_ret (v := idZ.v) (by simp [results, Try.results55, go_sem, *]) rfl ⟨rfl, (O6.drop.drop.rot1).drop⟩
theorem soundI_bad2 (h : Own W wx (Octs.rdA N s false :: l)) (hs : s.size ≤ 281474976710656) (x : IdR) (e : Int) (he : e ≠ 0) : Calls Try.prog 55 #[Octs.rdV N, x.v, nI e] wx (OwnTo W idZ.v (Octs.rdA N ⟨#[]⟩ true :: l)) := by
  have hb : True := trivial
  have q1 : (e != 0) = true := by simpa using he
  have O0 := h.newCells [nI x.s, nI x.i, nI x.g] 23
  have O1 := O0.newCells [nI 0, nI 0, nI 0] 23
  rw [World.size_alloc] at O1
  obtain ⟨w1, hw1⟩ : ∃ q, (wx.alloc (.cells #[nI x.s, nI x.i, nI x.g] 23)).alloc (.cells #[nI 0, nI 0, nI 0] 23) = q := ⟨_, rfl⟩
  replace O1 : Own W w1 (cellsA (wx.heap.size + 1) [nI 0, nI 0, nI 0] :: cellsA wx.heap.size [nI x.s, nI x.i, nI x.g] :: Octs.rdA N s false :: l) := by rw [← hw1]; exact O1
  have kB := Lib.hid (fun wz (p : w1.Plus wz) => bad_O (Own.atP O1 wz p) 2 rfl hs (by simp [hb]))
  clear O0 h
  go_enter Try.func55, Try.ntmps55
  go_upto_region 1 with fail
  try rw [hw1]
  clear hw1
  generalize wx.heap.size = B at *
  go_upto_region 2 with (go_at_call 67; (with_reducible refine (kB.out _ (by (repeat (first | exact Plus.refl _ | apply Plus.plus | apply Plus.alloc | apply Plus.drew)))).mono ?_); rintro e w' ⟨rfl, e1, rfl⟩)
  have O2 := (O1.plus e1).pull 2 rfl
  obtain ⟨w2, hw2⟩ : ∃ q, w1.plus e1 = q := ⟨_, rfl⟩
  rw [hw2] at O2 ⊢
  have kS := Lib.hid (spoil_O O2 hs)
  clear hw2 O1 kB O2
  go_upto_region 3 with (go_at_call 66; (with_reducible refine (kS.out).mono ?_); rintro e w3 ⟨rfl, O4⟩)
  have O5 := (O4.pull 1 rfl).newCells [nI 0, nI 0, nI 0] 23
  obtain ⟨w4, hw4⟩ : ∃ q, w3.alloc (.cells #[nI 0, nI 0, nI 0] 23) = q := ⟨_, rfl⟩
  rw [hw4] at O5
  go_upto_region 4 with fail
  try rw [hw4]
  clear hw4
  generalize w3.heap.size = Z at *
  clear O4 kS
  obtain ⟨lQ, qQ, fQx⟩ := O5.cells 0 rfl
  have x0 := qQ 0 (by simp)
  have x1 := qQ 1 (by simp)
  have x2 := qQ 2 (by simp)
  simp only [List.getElem?_cons_succ, List.getElem?_cons_zero] at x0 x1 x2
  haveI : InW Z w4 := ⟨lQ⟩
  clear qQ lQ
  clear fQx
  obtain ⟨lQ, qQ, fQr⟩ := O5.cells 1 rfl
  have r0 := qQ 0 (by simp)
  have r1 := qQ 1 (by simp)
  have r2 := qQ 2 (by simp)
  simp only [List.getElem?_cons_succ, List.getElem?_cons_zero] at r0 r1 r2
  haveI : InW (B + 1) w4 := ⟨lQ⟩
  clear qQ lQ
  replace O5 := Lib.hid O5
  go_wp2_with fail
  have O6 := ((((O5.out).setCellAt 1 0 (nI 0) rfl (by simp)).setCellAt 1 1 (nI 0) rfl (by simp)).setCellAt 1 2 (nI 0) rfl (by simp))
  simp only [List.set_cons_succ, List.set_cons_zero] at O6
  clear O5 fQr r0 x0 r1 x1 r2 x2
  obtain ⟨wf, hwf⟩ : ∃ q, (((w4.setCell ⟨B + 1, 0, none⟩ (nI 0)).setCell ⟨B + 1, 1, none⟩ (nI 0)).setCell ⟨B + 1, 2, none⟩ (nI 0)) = q := ⟨_, rfl⟩
  rw [hwf] at O6
  refine Eq.mpr (congrArg (bodyPost _ _ _ _ _) hwf) ?_
  clear hwf
  obtain ⟨-, q9, -⟩ := O6.cells 1 rfl
  have r0 := q9 0 (by simp)
  have r1 := q9 1 (by simp)
  have r2 := q9 2 (by simp)
  simp only [List.getElem?_cons_succ, List.getElem?_cons_zero] at r0 r1 r2
  clear q9
  exact bodyPost_ret (v := idZ.v) (by simp [results, Try.results55, go_sem, *]) rfl ⟨rfl, (O6.drop.drop.rot1).drop⟩
theorem soundB_ok (h : Own W wx (Octs.rdA N s false :: l)) (hs : s.size ≤ 281474976710656) (x : BdR) : Calls Try.prog 61 #[Octs.rdV N, x.v, nI 0] wx (OwnTo W x.v (Octs.rdA N s false :: l)) := by
  have hb : True := trivial
  have O0 := h.newCells [nI x.id.s, nI x.id.i, nI x.id.g, nI x.mask, nI x.x, nI x.y, nI x.vx, nI x.vy, nI x.hp, nI x.pw, nI x.lf] 25
  have O1 := O0.newCells [nI 0, nI 0, nI 0, nI 0, nI 0, nI 0, nI 0, nI 0, nI 0, nI 0, nI 0] 25
  rw [World.size_alloc] at O1
  obtain ⟨w1, hw1⟩ : ∃ q, (wx.alloc (.cells #[nI x.id.s, nI x.id.i, nI x.id.g, nI x.mask, nI x.x, nI x.y, nI x.vx, nI x.vy, nI x.hp, nI x.pw, nI x.lf] 25)).alloc (.cells #[nI 0, nI 0, nI 0, nI 0, nI 0, nI 0, nI 0, nI 0, nI 0, nI 0, nI 0] 25) = q := ⟨_, rfl⟩
  replace O1 : Own W w1 (cellsA (wx.heap.size + 1) [nI 0, nI 0, nI 0, nI 0, nI 0, nI 0, nI 0, nI 0, nI 0, nI 0, nI 0] :: cellsA wx.heap.size [nI x.id.s, nI x.id.i, nI x.id.g, nI x.mask, nI x.x, nI x.y, nI x.vx, nI x.vy, nI x.hp, nI x.pw, nI x.lf] :: Octs.rdA N s false :: l) := by rw [← hw1]; exact O1
  have kB := Lib.hid (fun wz (p : w1.Plus wz) => bad_O (Own.atP O1 wz p) 2 rfl hs (by simp [hb]))
  clear O0 h
  go_enter Try.func61, Try.ntmps61
  go_upto_region 1 with fail
  try rw [hw1]
  clear hw1
  generalize wx.heap.size = B at *
  go_upto_region 5 with (go_at_call 67; (with_reducible refine (kB.out _ (by (repeat (first | exact Plus.refl _ | apply Plus.plus | apply Plus.alloc | apply Plus.drew)))).mono ?_); rintro e w' ⟨rfl, e1, rfl⟩)
  have O2 := O1.plus e1
  obtain ⟨w2, hw2⟩ : ∃ q, w1.plus e1 = q := ⟨_, rfl⟩
  rw [hw2] at O2 ⊢
  clear hw2 O1 kB
  obtain ⟨lQ, qQ, fQr⟩ := O2.cells 0 rfl
  have r0 := qQ 0 (by simp)
  have r1 := qQ 1 (by simp)
  have r2 := qQ 2 (by simp)
  have r3 := qQ 3 (by simp)
  have r4 := qQ 4 (by simp)
  have r5 := qQ 5 (by simp)
  have r6 := qQ 6 (by simp)
  have r7 := qQ 7 (by simp)
  have r8 := qQ 8 (by simp)
  have r9 := qQ 9 (by simp)
  have r10 := qQ 10 (by simp)
  simp only [List.getElem?_cons_succ, List.getElem?_cons_zero] at r0 r1 r2 r3 r4 r5 r6 r7 r8 r9 r10
  haveI : InW (B + 1) w2 := ⟨lQ⟩
  clear qQ lQ
  obtain ⟨lQ, qQ, fQx⟩ := O2.cells 1 rfl
  have x0 := qQ 0 (by simp)
  have x1 := qQ 1 (by simp)
  have x2 := qQ 2 (by simp)
  have x3 := qQ 3 (by simp)
  have x4 := qQ 4 (by simp)
  have x5 := qQ 5 (by simp)
  have x6 := qQ 6 (by simp)
  have x7 := qQ 7 (by simp)
  have x8 := qQ 8 (by simp)
  have x9 := qQ 9 (by simp)
  have x10 := qQ 10 (by simp)
  simp only [List.getElem?_cons_succ, List.getElem?_cons_zero] at x0 x1 x2 x3 x4 x5 x6 x7 x8 x9 x10
  haveI : InW B w2 := ⟨lQ⟩
  clear qQ lQ
  clear fQx
  replace O2 := Lib.hid O2
  go_wp2_with fail
  have O3 := ((((((((((((O2.out).setCellAt 0 0 (nI x.id.s) rfl (by simp)).setCellAt 0 1 (nI x.id.i) rfl (by simp)).setCellAt 0 2 (nI x.id.g) rfl (by simp)).setCellAt 0 3 (nI x.mask) rfl (by simp)).setCellAt 0 4 (nI x.x) rfl (by simp)).setCellAt 0 5 (nI x.y) rfl (by simp)).setCellAt 0 6 (nI x.vx) rfl (by simp)).setCellAt 0 7 (nI x.vy) rfl (by simp)).setCellAt 0 8 (nI x.hp) rfl (by simp)).setCellAt 0 9 (nI x.pw) rfl (by simp)).setCellAt 0 10 (nI x.lf) rfl (by simp))
  simp only [List.set_cons_succ, List.set_cons_zero] at O3
  clear O2 fQr r0 x0 r1 x1 r2 x2 r3 x3 r4 x4 r5 x5 r6 x6 r7 x7 r8 x8 r9 x9 r10 x10
  obtain ⟨wf, hwf⟩ : ∃ q, (((((((((((w2.setCell ⟨B + 1, 0, none⟩ (nI x.id.s)).setCell ⟨B + 1, 1, none⟩ (nI x.id.i)).setCell ⟨B + 1, 2, none⟩ (nI x.id.g)).setCell ⟨B + 1, 3, none⟩ (nI x.mask)).setCell ⟨B + 1, 4, none⟩ (nI x.x)).setCell ⟨B + 1, 5, none⟩ (nI x.y)).setCell ⟨B + 1, 6, none⟩ (nI x.vx)).setCell ⟨B + 1, 7, none⟩ (nI x.vy)).setCell ⟨B + 1, 8, none⟩ (nI x.hp)).setCell ⟨B + 1, 9, none⟩ (nI x.pw)).setCell ⟨B + 1, 10, none⟩ (nI x.lf)) = q := ⟨_, rfl⟩
  rw [hwf] at O3
  refine Eq.mpr (congrArg (bodyPost _ _ _ _ _) hwf) ?_
  clear hwf
  obtain ⟨-, q9, -⟩ := O3.cells 0 rfl
  have r0 := q9 0 (by simp)
  have r1 := q9 1 (by simp)
  have r2 := q9 2 (by simp)
  have r3 := q9 3 (by simp)
  have r4 := q9 4 (by simp)
  have r5 := q9 5 (by simp)
  have r6 := q9 6 (by simp)
  have r7 := q9 7 (by simp)
  have r8 := q9 8 (by simp)
  have r9 := q9 9 (by simp)
  have r10 := q9 10 (by simp)
  simp only [List.getElem?_cons_succ, List.getElem?_cons_zero] at r0 r1 r2 r3 r4 r5 r6 r7 r8 r9 r10
  clear q9
  exact bodyPost_ret (v := x.v) (by simp [results, Try.results61, go_sem, *]) rfl ⟨rfl, (O3.drop).drop⟩
theorem soundB_bad1 (h : Own W wx (Octs.rdA N s true :: l)) (hs : s.size ≤ 281474976710656) (hb : s = ⟨#[]⟩) (x : BdR) (e : Int) : Calls Try.prog 61 #[Octs.rdV N, x.v, nI e] wx (OwnTo W bdZ.v (Octs.rdA N ⟨#[]⟩ true :: l)) := by
  have O0 := h.newCells [nI x.id.s, nI x.id.i, nI x.id.g, nI x.mask, nI x.x, nI x.y, nI x.vx, nI x.vy, nI x.hp, nI x.pw, nI x.lf] 25
  have O1 := O0.newCells [nI 0, nI 0, nI 0, nI 0, nI 0, nI 0, nI 0, nI 0, nI 0, nI 0, nI 0] 25
  rw [World.size_alloc] at O1
  obtain ⟨w1, hw1⟩ : ∃ q, (wx.alloc (.cells #[nI x.id.s, nI x.id.i, nI x.id.g, nI x.mask, nI x.x, nI x.y, nI x.vx, nI x.vy, nI x.hp, nI x.pw, nI x.lf] 25)).alloc (.cells #[nI 0, nI 0, nI 0, nI 0, nI 0, nI 0, nI 0, nI 0, nI 0, nI 0, nI 0] 25) = q := ⟨_, rfl⟩
  replace O1 : Own W w1 (cellsA (wx.heap.size + 1) [nI 0, nI 0, nI 0, nI 0, nI 0, nI 0, nI 0, nI 0, nI 0, nI 0, nI 0] :: cellsA wx.heap.size [nI x.id.s, nI x.id.i, nI x.id.g, nI x.mask, nI x.x, nI x.y, nI x.vx, nI x.vy, nI x.hp, nI x.pw, nI x.lf] :: Octs.rdA N s true :: l) := by rw [← hw1]; exact O1
  have kB := Lib.hid (fun wz (p : w1.Plus wz) => bad_O (Own.atP O1 wz p) 2 rfl hs (by simp [hb]))
  clear O0 h
  go_enter Try.func61, Try.ntmps61
  go_upto_region 1 with fail
  try rw [hw1]
  clear hw1
  generalize wx.heap.size = B at *
  go_upto_region 2 with (go_at_call 67; (with_reducible refine (kB.out _ (by (repeat (first | exact Plus.refl _ | apply Plus.plus | apply Plus.alloc | apply Plus.drew)))).mono ?_); rintro e w' ⟨rfl, e1, rfl⟩)
  have O2 := (O1.plus e1).pull 2 rfl
  obtain ⟨w2, hw2⟩ : ∃ q, w1.plus e1 = q := ⟨_, rfl⟩
  rw [hw2] at O2 ⊢
  have kS := Lib.hid (spoil_O O2 hs)
  clear hw2 O1 kB O2
  go_upto_region 3 with (go_at_call 66; (with_reducible refine (kS.out).mono ?_); rintro e w3 ⟨rfl, O4⟩)
  have O5 := (O4.pull 1 rfl).newCells [nI 0, nI 0, nI 0, nI 0, nI 0, nI 0, nI 0, nI 0, nI 0, nI 0, nI 0] 25
  obtain ⟨w4, hw4⟩ : ∃ q, w3.alloc (.cells #[nI 0, nI 0, nI 0, nI 0, nI 0, nI 0, nI 0, nI 0, nI 0, nI 0, nI 0] 25) = q := ⟨_, rfl⟩
  rw [hw4] at O5
  go_upto_region 4 with fail
  try rw [hw4]
  clear hw4
  generalize w3.heap.size = Z at *
  clear O4 kS
  obtain ⟨lQ, qQ, fQx⟩ := O5.cells 0 rfl
  have x0 := qQ 0 (by simp)
  have x1 := qQ 1 (by simp)
  have x2 := qQ 2 (by simp)
  have x3 := qQ 3 (by simp)
  have x4 := qQ 4 (by simp)
  have x5 := qQ 5 (by simp)
  have x6 := qQ 6 (by simp)
  have x7 := qQ 7 (by simp)
  have x8 := qQ 8 (by simp)
  have x9 := qQ 9 (by simp)
  have x10 := qQ 10 (by simp)
  simp only [List.getElem?_cons_succ, List.getElem?_cons_zero] at x0 x1 x2 x3 x4 x5 x6 x7 x8 x9 x10
  haveI : InW Z w4 := ⟨lQ⟩
  clear qQ lQ
  clear fQx
  obtain ⟨lQ, qQ, fQr⟩ := O5.cells 1 rfl
  have r0 := qQ 0 (by simp)
  have r1 := qQ 1 (by simp)
  have r2 := qQ 2 (by simp)
  have r3 := qQ 3 (by simp)
  have r4 := qQ 4 (by simp)
  have r5 := qQ 5 (by simp)
  have r6 := qQ 6 (by simp)
  have r7 := qQ 7 (by simp)
  have r8 := qQ 8 (by simp)
  have r9 := qQ 9 (by simp)
  have r10 := qQ 10 (by simp)
  simp only [List.getElem?_cons_succ, List.getElem?_cons_zero] at r0 r1 r2 r3 r4 r5 r6 r7 r8 r9 r10
  haveI : InW (B + 1) w4 := ⟨lQ⟩
  clear qQ lQ
  replace O5 := Lib.hid O5
  go_wp2_with fail
  have O6 := ((((((((((((O5.out).setCellAt 1 0 (nI 0) rfl (by simp)).setCellAt 1 1 (nI 0) rfl (by simp)).setCellAt 1 2 (nI 0) rfl (by simp)).setCellAt 1 3 (nI 0) rfl (by simp)).setCellAt 1 4 (nI 0) rfl (by simp)).setCellAt 1 5 (nI 0) rfl (by simp)).setCellAt 1 6 (nI 0) rfl (by simp)).setCellAt 1 7 (nI 0) rfl (by simp)).setCellAt 1 8 (nI 0) rfl (by simp)).setCellAt 1 9 (nI 0) rfl (by simp)).setCellAt 1 10 (nI 0) rfl (by simp))
  simp only [List.set_cons_succ, List.set_cons_zero] at O6
  clear O5 fQr r0 x0 r1 x1 r2 x2 r3 x3 r4 x4 r5 x5 r6 x6 r7 x7 r8 x8 r9 x9 r10 x10
  obtain ⟨wf, hwf⟩ : ∃ q, (((((((((((w4.setCell ⟨B + 1, 0, none⟩ (nI 0)).setCell ⟨B + 1, 1, none⟩ (nI 0)).setCell ⟨B + 1, 2, none⟩ (nI 0)).setCell ⟨B + 1, 3, none⟩ (nI 0)).setCell ⟨B + 1, 4, none⟩ (nI 0)).setCell ⟨B + 1, 5, none⟩ (nI 0)).setCell ⟨B + 1, 6, none⟩ (nI 0)).setCell ⟨B + 1, 7, none⟩ (nI 0)).setCell ⟨B + 1, 8, none⟩ (nI 0)).setCell ⟨B + 1, 9, none⟩ (nI 0)).setCell ⟨B + 1, 10, none⟩ (nI 0)) = q := ⟨_, rfl⟩
  rw [hwf] at O6
  refine Eq.mpr (congrArg (bodyPost _ _ _ _ _) hwf) ?_
  clear hwf
  obtain ⟨-, q9, -⟩ := O6.cells 1 rfl
  have r0 := q9 0 (by simp)
  have r1 := q9 1 (by simp)
  have r2 := q9 2 (by simp)
  have r3 := q9 3 (by simp)
  have r4 := q9 4 (by simp)
  have r5 := q9 5 (by simp)
  have r6 := q9 6 (by simp)
  have r7 := q9 7 (by simp)
  have r8 := q9 8 (by simp)
  have r9 := q9 9 (by simp)
  have r10 := q9 10 (by simp)
  simp only [List.getElem?_cons_succ, List.getElem?_cons_zero] at r0 r1 r2 r3 r4 r5 r6 r7 r8 r9 r10
  clear q9
  exact bodyPost_ret (v := bdZ.v) (by simp [results, Try.results61, go_sem, *]) rfl ⟨rfl, (O6.drop.drop.rot1).drop⟩
theorem soundB_bad2 (h : Own W wx (Octs.rdA N s false :: l)) (hs : s.size ≤ 281474976710656) (x : BdR) (e : Int) (he : e ≠ 0) : Calls Try.prog 61 #[Octs.rdV N, x.v, nI e] wx (OwnTo W bdZ.v (Octs.rdA N ⟨#[]⟩ true :: l)) := by
  have hb : True := trivial
  have q1 : (e != 0) = true := by simpa using he
  have O0 := h.newCells [nI x.id.s, nI x.id.i, nI x.id.g, nI x.mask, nI x.x, nI x.y, nI x.vx, nI x.vy, nI x.hp, nI x.pw, nI x.lf] 25
  have O1 := O0.newCells [nI 0, nI 0, nI 0, nI 0, nI 0, nI 0, nI 0, nI 0, nI 0, nI 0, nI 0] 25
  rw [World.size_alloc] at O1
  obtain ⟨w1, hw1⟩ : ∃ q, (wx.alloc (.cells #[nI x.id.s, nI x.id.i, nI x.id.g, nI x.mask, nI x.x, nI x.y, nI x.vx, nI x.vy, nI x.hp, nI x.pw, nI x.lf] 25)).alloc (.cells #[nI 0, nI 0, nI 0, nI 0, nI 0, nI 0, nI 0, nI 0, nI 0, nI 0, nI 0] 25) = q := ⟨_, rfl⟩
  replace O1 : Own W w1 (cellsA (wx.heap.size + 1) [nI 0, nI 0, nI 0, nI 0, nI 0, nI 0, nI 0, nI 0, nI 0, nI 0, nI 0] :: cellsA wx.heap.size [nI x.id.s, nI x.id.i, nI x.id.g, nI x.mask, nI x.x, nI x.y, nI x.vx, nI x.vy, nI x.hp, nI x.pw, nI x.lf] :: Octs.rdA N s false :: l) := by rw [← hw1]; exact O1
  have kB := Lib.hid (fun wz (p : w1.Plus wz) => bad_O (Own.atP O1 wz p) 2 rfl hs (by simp [hb]))
  clear O0 h
  go_enter Try.func61, Try.ntmps61
  go_upto_region 1 with fail
  try rw [hw1]
  clear hw1
  generalize wx.heap.size = B at *
  go_upto_region 2 with (go_at_call 67; (with_reducible refine (kB.out _ (by (repeat (first | exact Plus.refl _ | apply Plus.plus | apply Plus.alloc | apply Plus.drew)))).mono ?_); rintro e w' ⟨rfl, e1, rfl⟩)
  have O2 := (O1.plus e1).pull 2 rfl
  obtain ⟨w2, hw2⟩ : ∃ q, w1.plus e1 = q := ⟨_, rfl⟩
  rw [hw2] at O2 ⊢
  have kS := Lib.hid (spoil_O O2 hs)
  clear hw2 O1 kB O2
  go_upto_region 3 with (go_at_call 66; (with_reducible refine (kS.out).mono ?_); rintro e w3 ⟨rfl, O4⟩)
  have O5 := (O4.pull 1 rfl).newCells [nI 0, nI 0, nI 0, nI 0, nI 0, nI 0, nI 0, nI 0, nI 0, nI 0, nI 0] 25
  obtain ⟨w4, hw4⟩ : ∃ q, w3.alloc (.cells #[nI 0, nI 0, nI 0, nI 0, nI 0, nI 0, nI 0, nI 0, nI 0, nI 0, nI 0] 25) = q := ⟨_, rfl⟩
  rw [hw4] at O5
  go_upto_region 4 with fail
  try rw [hw4]
  clear hw4
  generalize w3.heap.size = Z at *
  clear O4 kS
  obtain ⟨lQ, qQ, fQx⟩ := O5.cells 0 rfl
  have x0 := qQ 0 (by simp)
  have x1 := qQ 1 (by simp)
  have x2 := qQ 2 (by simp)
  have x3 := qQ 3 (by simp)
  have x4 := qQ 4 (by simp)
  have x5 := qQ 5 (by simp)
  have x6 := qQ 6 (by simp)
  have x7 := qQ 7 (by simp)
  have x8 := qQ 8 (by simp)
  have x9 := qQ 9 (by simp)
  have x10 := qQ 10 (by simp)
  simp only [List.getElem?_cons_succ, List.getElem?_cons_zero] at x0 x1 x2 x3 x4 x5 x6 x7 x8 x9 x10
  haveI : InW Z w4 := ⟨lQ⟩
  clear qQ lQ
  clear fQx
  obtain ⟨lQ, qQ, fQr⟩ := O5.cells 1 rfl
  have r0 := qQ 0 (by simp)
  have r1 := qQ 1 (by simp)
  have r2 := qQ 2 (by simp)
  have r3 := qQ 3 (by simp)
  have r4 := qQ 4 (by simp)
  have r5 := qQ 5 (by simp)
  have r6 := qQ 6 (by simp)
  have r7 := qQ 7 (by simp)
  have r8 := qQ 8 (by simp)
  have r9 := qQ 9 (by simp)
  have r10 := qQ 10 (by simp)
  simp only [List.getElem?_cons_succ, List.getElem?_cons_zero] at r0 r1 r2 r3 r4 r5 r6 r7 r8 r9 r10
  haveI : InW (B + 1) w4 := ⟨lQ⟩
  clear qQ lQ
  replace O5 := Lib.hid O5
  go_wp2_with fail
  have O6 := ((((((((((((O5.out).setCellAt 1 0 (nI 0) rfl (by simp)).setCellAt 1 1 (nI 0) rfl (by simp)).setCellAt 1 2 (nI 0) rfl (by simp)).setCellAt 1 3 (nI 0) rfl (by simp)).setCellAt 1 4 (nI 0) rfl (by simp)).setCellAt 1 5 (nI 0) rfl (by simp)).setCellAt 1 6 (nI 0) rfl (by simp)).setCellAt 1 7 (nI 0) rfl (by simp)).setCellAt 1 8 (nI 0) rfl (by simp)).setCellAt 1 9 (nI 0) rfl (by simp)).setCellAt 1 10 (nI 0) rfl (by simp))
  simp only [List.set_cons_succ, List.set_cons_zero] at O6
  clear O5 fQr r0 x0 r1 x1 r2 x2 r3 x3 r4 x4 r5 x5 r6 x6 r7 x7 r8 x8 r9 x9 r10 x10
  obtain ⟨wf, hwf⟩ : ∃ q, (((((((((((w4.setCell ⟨B + 1, 0, none⟩ (nI 0)).setCell ⟨B + 1, 1, none⟩ (nI 0)).setCell ⟨B + 1, 2, none⟩ (nI 0)).setCell ⟨B + 1, 3, none⟩ (nI 0)).setCell ⟨B + 1, 4, none⟩ (nI 0)).setCell ⟨B + 1, 5, none⟩ (nI 0)).setCell ⟨B + 1, 6, none⟩ (nI 0)).setCell ⟨B + 1, 7, none⟩ (nI 0)).setCell ⟨B + 1, 8, none⟩ (nI 0)).setCell ⟨B + 1, 9, none⟩ (nI 0)).setCell ⟨B + 1, 10, none⟩ (nI 0)) = q := ⟨_, rfl⟩
  rw [hwf] at O6
  refine Eq.mpr (congrArg (bodyPost _ _ _ _ _) hwf) ?_
  clear hwf
  obtain ⟨-, q9, -⟩ := O6.cells 1 rfl
  have r0 := q9 0 (by simp)
  have r1 := q9 1 (by simp)
  have r2 := q9 2 (by simp)
  have r3 := q9 3 (by simp)
  have r4 := q9 4 (by simp)
  have r5 := q9 5 (by simp)
  have r6 := q9 6 (by simp)
  have r7 := q9 7 (by simp)
  have r8 := q9 8 (by simp)
  have r9 := q9 9 (by simp)
  have r10 := q9 10 (by simp)
  simp only [List.getElem?_cons_succ, List.getElem?_cons_zero] at r0 r1 r2 r3 r4 r5 r6 r7 r8 r9 r10
  clear q9
  exact bodyPost_ret (v := bdZ.v) (by simp [results, Try.results61, go_sem, *]) rfl ⟨rfl, (O6.drop.drop.rot1).drop⟩
theorem soundC_ok (h : Own W wx (Octs.rdA N s false :: l)) (hs : s.size ≤ 281474976710656) (x : CmdR) : Calls Try.prog 63 #[Octs.rdV N, x.v, nI 0] wx (OwnTo W x.v (Octs.rdA N s false :: l)) := by
  have hb : True := trivial
  have O0 := h.newCells [nI x.kind, nI x.id.s, nI x.id.i, nI x.id.g, nI x.b.id.s, nI x.b.id.i, nI x.b.id.g, nI x.b.mask, nI x.b.x, nI x.b.y, nI x.b.vx, nI x.b.vy, nI x.b.hp, nI x.b.pw, nI x.b.lf, nI x.mask] 27
  have O1 := O0.newCells [nI 0, nI 0, nI 0, nI 0, nI 0, nI 0, nI 0, nI 0, nI 0, nI 0, nI 0, nI 0, nI 0, nI 0, nI 0, nI 0] 27
  rw [World.size_alloc] at O1
  obtain ⟨w1, hw1⟩ : ∃ q, (wx.alloc (.cells #[nI x.kind, nI x.id.s, nI x.id.i, nI x.id.g, nI x.b.id.s, nI x.b.id.i, nI x.b.id.g, nI x.b.mask, nI x.b.x, nI x.b.y, nI x.b.vx, nI x.b.vy, nI x.b.hp, nI x.b.pw, nI x.b.lf, nI x.mask] 27)).alloc (.cells #[nI 0, nI 0, nI 0, nI 0, nI 0, nI 0, nI 0, nI 0, nI 0, nI 0, nI 0, nI 0, nI 0, nI 0, nI 0, nI 0] 27) = q := ⟨_, rfl⟩
  replace O1 : Own W w1 (cellsA (wx.heap.size + 1) [nI 0, nI 0, nI 0, nI 0, nI 0, nI 0, nI 0, nI 0, nI 0, nI 0, nI 0, nI 0, nI 0, nI 0, nI 0, nI 0] :: cellsA wx.heap.size [nI x.kind, nI x.id.s, nI x.id.i, nI x.id.g, nI x.b.id.s, nI x.b.id.i, nI x.b.id.g, nI x.b.mask, nI x.b.x, nI x.b.y, nI x.b.vx, nI x.b.vy, nI x.b.hp, nI x.b.pw, nI x.b.lf, nI x.mask] :: Octs.rdA N s false :: l) := by rw [← hw1]; exact O1
  have kB := Lib.hid (fun wz (p : w1.Plus wz) => bad_O (Own.atP O1 wz p) 2 rfl hs (by simp [hb]))
  clear O0 h
  go_enter Try.func63, Try.ntmps63
  go_upto_region 1 with fail
  try rw [hw1]
  clear hw1
  generalize wx.heap.size = B at *
  go_upto_region 5 with (go_at_call 67; (with_reducible refine (kB.out _ (by (repeat (first | exact Plus.refl _ | apply Plus.plus | apply Plus.alloc | apply Plus.drew)))).mono ?_); rintro e w' ⟨rfl, e1, rfl⟩)
  have O2 := O1.plus e1
  obtain ⟨w2, hw2⟩ : ∃ q, w1.plus e1 = q := ⟨_, rfl⟩
  rw [hw2] at O2 ⊢
  clear hw2 O1 kB
  obtain ⟨lQ, qQ, fQr⟩ := O2.cells 0 rfl
  have r0 := qQ 0 (by simp)
  have r1 := qQ 1 (by simp)
  have r2 := qQ 2 (by simp)
  have r3 := qQ 3 (by simp)
  have r4 := qQ 4 (by simp)
  have r5 := qQ 5 (by simp)
  have r6 := qQ 6 (by simp)
  have r7 := qQ 7 (by simp)
  have r8 := qQ 8 (by simp)
  have r9 := qQ 9 (by simp)
  have r10 := qQ 10 (by simp)
  have r11 := qQ 11 (by simp)
  have r12 := qQ 12 (by simp)
  have r13 := qQ 13 (by simp)
  have r14 := qQ 14 (by simp)
  have r15 := qQ 15 (by simp)
  simp only [List.getElem?_cons_succ, List.getElem?_cons_zero] at r0 r1 r2 r3 r4 r5 r6 r7 r8 r9 r10 r11 r12 r13 r14 r15
  haveI : InW (B + 1) w2 := ⟨lQ⟩
  clear qQ lQ
  obtain ⟨lQ, qQ, fQx⟩ := O2.cells 1 rfl
  have x0 := qQ 0 (by simp)
  have x1 := qQ 1 (by simp)
  have x2 := qQ 2 (by simp)
  have x3 := qQ 3 (by simp)
  have x4 := qQ 4 (by simp)
  have x5 := qQ 5 (by simp)
  have x6 := qQ 6 (by simp)
  have x7 := qQ 7 (by simp)
  have x8 := qQ 8 (by simp)
  have x9 := qQ 9 (by simp)
  have x10 := qQ 10 (by simp)
  have x11 := qQ 11 (by simp)
  have x12 := qQ 12 (by simp)
  have x13 := qQ 13 (by simp)
  have x14 := qQ 14 (by simp)
  have x15 := qQ 15 (by simp)
  simp only [List.getElem?_cons_succ, List.getElem?_cons_zero] at x0 x1 x2 x3 x4 x5 x6 x7 x8 x9 x10 x11 x12 x13 x14 x15
  haveI : InW B w2 := ⟨lQ⟩
  clear qQ lQ
  clear fQx
  replace O2 := Lib.hid O2
  go_wp2_with fail
  have O3 := (((((((((((((((((O2.out).setCellAt 0 0 (nI x.kind) rfl (by simp)).setCellAt 0 1 (nI x.id.s) rfl (by simp)).setCellAt 0 2 (nI x.id.i) rfl (by simp)).setCellAt 0 3 (nI x.id.g) rfl (by simp)).setCellAt 0 4 (nI x.b.id.s) rfl (by simp)).setCellAt 0 5 (nI x.b.id.i) rfl (by simp)).setCellAt 0 6 (nI x.b.id.g) rfl (by simp)).setCellAt 0 7 (nI x.b.mask) rfl (by simp)).setCellAt 0 8 (nI x.b.x) rfl (by simp)).setCellAt 0 9 (nI x.b.y) rfl (by simp)).setCellAt 0 10 (nI x.b.vx) rfl (by simp)).setCellAt 0 11 (nI x.b.vy) rfl (by simp)).setCellAt 0 12 (nI x.b.hp) rfl (by simp)).setCellAt 0 13 (nI x.b.pw) rfl (by simp)).setCellAt 0 14 (nI x.b.lf) rfl (by simp)).setCellAt 0 15 (nI x.mask) rfl (by simp))
  simp only [List.set_cons_succ, List.set_cons_zero] at O3
  clear O2 fQr r0 x0 r1 x1 r2 x2 r3 x3 r4 x4 r5 x5 r6 x6 r7 x7 r8 x8 r9 x9 r10 x10 r11 x11 r12 x12 r13 x13 r14 x14 r15 x15
  obtain ⟨wf, hwf⟩ : ∃ q, ((((((((((((((((w2.setCell ⟨B + 1, 0, none⟩ (nI x.kind)).setCell ⟨B + 1, 1, none⟩ (nI x.id.s)).setCell ⟨B + 1, 2, none⟩ (nI x.id.i)).setCell ⟨B + 1, 3, none⟩ (nI x.id.g)).setCell ⟨B + 1, 4, none⟩ (nI x.b.id.s)).setCell ⟨B + 1, 5, none⟩ (nI x.b.id.i)).setCell ⟨B + 1, 6, none⟩ (nI x.b.id.g)).setCell ⟨B + 1, 7, none⟩ (nI x.b.mask)).setCell ⟨B + 1, 8, none⟩ (nI x.b.x)).setCell ⟨B + 1, 9, none⟩ (nI x.b.y)).setCell ⟨B + 1, 10, none⟩ (nI x.b.vx)).setCell ⟨B + 1, 11, none⟩ (nI x.b.vy)).setCell ⟨B + 1, 12, none⟩ (nI x.b.hp)).setCell ⟨B + 1, 13, none⟩ (nI x.b.pw)).setCell ⟨B + 1, 14, none⟩ (nI x.b.lf)).setCell ⟨B + 1, 15, none⟩ (nI x.mask)) = q := ⟨_, rfl⟩
  rw [hwf] at O3
  refine Eq.mpr (congrArg (bodyPost _ _ _ _ _) hwf) ?_
  clear hwf
  obtain ⟨-, q9, -⟩ := O3.cells 0 rfl
  have r0 := q9 0 (by simp)
  have r1 := q9 1 (by simp)
  have r2 := q9 2 (by simp)
  have r3 := q9 3 (by simp)
  have r4 := q9 4 (by simp)
  have r5 := q9 5 (by simp)
  have r6 := q9 6 (by simp)
  have r7 := q9 7 (by simp)
  have r8 := q9 8 (by simp)
  have r9 := q9 9 (by simp)
  have r10 := q9 10 (by simp)
  have r11 := q9 11 (by simp)
  have r12 := q9 12 (by simp)
  have r13 := q9 13 (by simp)
  have r14 := q9 14 (by simp)
  have r15 := q9 15 (by simp)
  simp only [List.getElem?_cons_succ, List.getElem?_cons_zero] at r0 r1 r2 r3 r4 r5 r6 r7 r8 r9 r10 r11 r12 r13 r14 r15
  clear q9
  exact bodyPost_ret (v := x.v) (by simp [results, Try.results63, go_sem, *]) rfl ⟨rfl, (O3.drop).drop⟩
theorem soundC_bad1 (h : Own W wx (Octs.rdA N s true :: l)) (hs : s.size ≤ 281474976710656) (hb : s = ⟨#[]⟩) (x : CmdR) (e : Int) : Calls Try.prog 63 #[Octs.rdV N, x.v, nI e] wx (OwnTo W cmZ.v (Octs.rdA N ⟨#[]⟩ true :: l)) := by
  have O0 := h.newCells [nI x.kind, nI x.id.s, nI x.id.i, nI x.id.g, nI x.b.id.s, nI x.b.id.i, nI x.b.id.g, nI x.b.mask, nI x.b.x, nI x.b.y, nI x.b.vx, nI x.b.vy, nI x.b.hp, nI x.b.pw, nI x.b.lf, nI x.mask] 27
  have O1 := O0.newCells [nI 0, nI 0, nI 0, nI 0, nI 0, nI 0, nI 0, nI 0, nI 0, nI 0, nI 0, nI 0, nI 0, nI 0, nI 0, nI 0] 27
  rw [World.size_alloc] at O1
  obtain ⟨w1, hw1⟩ : ∃ q, (wx.alloc (.cells #[nI x.kind, nI x.id.s, nI x.id.i, nI x.id.g, nI x.b.id.s, nI x.b.id.i, nI x.b.id.g, nI x.b.mask, nI x.b.x, nI x.b.y, nI x.b.vx, nI x.b.vy, nI x.b.hp, nI x.b.pw, nI x.b.lf, nI x.mask] 27)).alloc (.cells #[nI 0, nI 0, nI 0, nI 0, nI 0, nI 0, nI 0, nI 0, nI 0, nI 0, nI 0, nI 0, nI 0, nI 0, nI 0, nI 0] 27) = q := ⟨_, rfl⟩
  replace O1 : Own W w1 (cellsA (wx.heap.size + 1) [nI 0, nI 0, nI 0, nI 0, nI 0, nI 0, nI 0, nI 0, nI 0, nI 0, nI 0, nI 0, nI 0, nI 0, nI 0, nI 0] :: cellsA wx.heap.size [nI x.kind, nI x.id.s, nI x.id.i, nI x.id.g, nI x.b.id.s, nI x.b.id.i, nI x.b.id.g, nI x.b.mask, nI x.b.x, nI x.b.y, nI x.b.vx, nI x.b.vy, nI x.b.hp, nI x.b.pw, nI x.b.lf, nI x.mask] :: Octs.rdA N s true :: l) := by rw [← hw1]; exact O1
  have kB := Lib.hid (fun wz (p : w1.Plus wz) => bad_O (Own.atP O1 wz p) 2 rfl hs (by simp [hb]))
  clear O0 h
  go_enter Try.func63, Try.ntmps63
  go_upto_region 1 with fail
  try rw [hw1]
  clear hw1
  generalize wx.heap.size = B at *
  go_upto_region 2 with (go_at_call 67; (with_reducible refine (kB.out _ (by (repeat (first | exact Plus.refl _ | apply Plus.plus | apply Plus.alloc | apply Plus.drew)))).mono ?_); rintro e w' ⟨rfl, e1, rfl⟩)
  have O2 := (O1.plus e1).pull 2 rfl
  obtain ⟨w2, hw2⟩ : ∃ q, w1.plus e1 = q := ⟨_, rfl⟩
  rw [hw2] at O2 ⊢
  have kS := Lib.hid (spoil_O O2 hs)
  clear hw2 O1 kB O2
  go_upto_region 3 with (go_at_call 66; (with_reducible refine (kS.out).mono ?_); rintro e w3 ⟨rfl, O4⟩)
  have O5 := (O4.pull 1 rfl).newCells [nI 0, nI 0, nI 0, nI 0, nI 0, nI 0, nI 0, nI 0, nI 0, nI 0, nI 0, nI 0, nI 0, nI 0, nI 0, nI 0] 27
  obtain ⟨w4, hw4⟩ : ∃ q, w3.alloc (.cells #[nI 0, nI 0, nI 0, nI 0, nI 0, nI 0, nI 0, nI 0, nI 0, nI 0, nI 0, nI 0, nI 0, nI 0, nI 0, nI 0] 27) = q := ⟨_, rfl⟩
  rw [hw4] at O5
  go_upto_region 4 with fail
  try rw [hw4]
  clear hw4
  generalize w3.heap.size = Z at *
  clear O4 kS
  obtain ⟨lQ, qQ, fQx⟩ := O5.cells 0 rfl
  have x0 := qQ 0 (by simp)
  have x1 := qQ 1 (by simp)
  have x2 := qQ 2 (by simp)
  have x3 := qQ 3 (by simp)
  have x4 := qQ 4 (by simp)
  have x5 := qQ 5 (by simp)
  have x6 := qQ 6 (by simp)
  have x7 := qQ 7 (by simp)
  have x8 := qQ 8 (by simp)
  have x9 := qQ 9 (by simp)
  have x10 := qQ 10 (by simp)
  have x11 := qQ 11 (by simp)
  have x12 := qQ 12 (by simp)
  have x13 := qQ 13 (by simp)
  have x14 := qQ 14 (by simp)
  have x15 := qQ 15 (by simp)
  simp only [List.getElem?_cons_succ, List.getElem?_cons_zero] at x0 x1 x2 x3 x4 x5 x6 x7 x8 x9 x10 x11 x12 x13 x14 x15
  haveI : InW Z w4 := ⟨lQ⟩
  clear qQ lQ
  clear fQx
  obtain ⟨lQ, qQ, fQr⟩ := O5.cells 1 rfl
  have r0 := qQ 0 (by simp)
  have r1 := qQ 1 (by simp)
  have r2 := qQ 2 (by simp)
  have r3 := qQ 3 (by simp)
  have r4 := qQ 4 (by simp)
  have r5 := qQ 5 (by simp)
  have r6 := qQ 6 (by simp)
  have r7 := qQ 7 (by simp)
  have r8 := qQ 8 (by simp)
  have r9 := qQ 9 (by simp)
  have r10 := qQ 10 (by simp)
  have r11 := qQ 11 (by simp)
  have r12 := qQ 12 (by simp)
  have r13 := qQ 13 (by simp)
  have r14 := qQ 14 (by simp)
  have r15 := qQ 15 (by simp)
  simp only [List.getElem?_cons_succ, List.getElem?_cons_zero] at r0 r1 r2 r3 r4 r5 r6 r7 r8 r9 r10 r11 r12 r13 r14 r15
  haveI : InW (B + 1) w4 := ⟨lQ⟩
  clear qQ lQ
  replace O5 := Lib.hid O5
  go_wp2_with fail
  have O6 := (((((((((((((((((O5.out).setCellAt 1 0 (nI 0) rfl (by simp)).setCellAt 1 1 (nI 0) rfl (by simp)).setCellAt 1 2 (nI 0) rfl (by simp)).setCellAt 1 3 (nI 0) rfl (by simp)).setCellAt 1 4 (nI 0) rfl (by simp)).setCellAt 1 5 (nI 0) rfl (by simp)).setCellAt 1 6 (nI 0) rfl (by simp)).setCellAt 1 7 (nI 0) rfl (by simp)).setCellAt 1 8 (nI 0) rfl (by simp)).setCellAt 1 9 (nI 0) rfl (by simp)).setCellAt 1 10 (nI 0) rfl (by simp)).setCellAt 1 11 (nI 0) rfl (by simp)).setCellAt 1 12 (nI 0) rfl (by simp)).setCellAt 1 13 (nI 0) rfl (by simp)).setCellAt 1 14 (nI 0) rfl (by simp)).setCellAt 1 15 (nI 0) rfl (by simp))
  simp only [List.set_cons_succ, List.set_cons_zero] at O6
  clear O5 fQr r0 x0 r1 x1 r2 x2 r3 x3 r4 x4 r5 x5 r6 x6 r7 x7 r8 x8 r9 x9 r10 x10 r11 x11 r12 x12 r13 x13 r14 x14 r15 x15
  obtain ⟨wf, hwf⟩ : ∃ q, ((((((((((((((((w4.setCell ⟨B + 1, 0, none⟩ (nI 0)).setCell ⟨B + 1, 1, none⟩ (nI 0)).setCell ⟨B + 1, 2, none⟩ (nI 0)).setCell ⟨B + 1, 3, none⟩ (nI 0)).setCell ⟨B + 1, 4, none⟩ (nI 0)).setCell ⟨B + 1, 5, none⟩ (nI 0)).setCell ⟨B + 1, 6, none⟩ (nI 0)).setCell ⟨B + 1, 7, none⟩ (nI 0)).setCell ⟨B + 1, 8, none⟩ (nI 0)).setCell ⟨B + 1, 9, none⟩ (nI 0)).setCell ⟨B + 1, 10, none⟩ (nI 0)).setCell ⟨B + 1, 11, none⟩ (nI 0)).setCell ⟨B + 1, 12, none⟩ (nI 0)).setCell ⟨B + 1, 13, none⟩ (nI 0)).setCell ⟨B + 1, 14, none⟩ (nI 0)).setCell ⟨B + 1, 15, none⟩ (nI 0)) = q := ⟨_, rfl⟩
  rw [hwf] at O6
  refine Eq.mpr (congrArg (bodyPost _ _ _ _ _) hwf) ?_
  clear hwf
  obtain ⟨-, q9, -⟩ := O6.cells 1 rfl
  have r0 := q9 0 (by simp)
  have r1 := q9 1 (by simp)
  have r2 := q9 2 (by simp)
  have r3 := q9 3 (by simp)
  have r4 := q9 4 (by simp)
  have r5 := q9 5 (by simp)
  have r6 := q9 6 (by simp)
  have r7 := q9 7 (by simp)
  have r8 := q9 8 (by simp)
  have r9 := q9 9 (by simp)
  have r10 := q9 10 (by simp)
  have r11 := q9 11 (by simp)
  have r12 := q9 12 (by simp)
  have r13 := q9 13 (by simp)
  have r14 := q9 14 (by simp)
  have r15 := q9 15 (by simp)
  simp only [List.getElem?_cons_succ, List.getElem?_cons_zero] at r0 r1 r2 r3 r4 r5 r6 r7 r8 r9 r10 r11 r12 r13 r14 r15
  clear q9
  exact bodyPost_ret (v := cmZ.v) (by simp [results, Try.results63, go_sem, *]) rfl ⟨rfl, (O6.drop.drop.rot1).drop⟩
theorem soundC_bad2 (h : Own W wx (Octs.rdA N s false :: l)) (hs : s.size ≤ 281474976710656) (x : CmdR) (e : Int) (he : e ≠ 0) : Calls Try.prog 63 #[Octs.rdV N, x.v, nI e] wx (OwnTo W cmZ.v (Octs.rdA N ⟨#[]⟩ true :: l)) := by
  have hb : True := trivial
  have q1 : (e != 0) = true := by simpa using he
  have O0 := h.newCells [nI x.kind, nI x.id.s, nI x.id.i, nI x.id.g, nI x.b.id.s, nI x.b.id.i, nI x.b.id.g, nI x.b.mask, nI x.b.x, nI x.b.y, nI x.b.vx, nI x.b.vy, nI x.b.hp, nI x.b.pw, nI x.b.lf, nI x.mask] 27
  have O1 := O0.newCells [nI 0, nI 0, nI 0, nI 0, nI 0, nI 0, nI 0, nI 0, nI 0, nI 0, nI 0, nI 0, nI 0, nI 0, nI 0, nI 0] 27
  rw [World.size_alloc] at O1
  obtain ⟨w1, hw1⟩ : ∃ q, (wx.alloc (.cells #[nI x.kind, nI x.id.s, nI x.id.i, nI x.id.g, nI x.b.id.s, nI x.b.id.i, nI x.b.id.g, nI x.b.mask, nI x.b.x, nI x.b.y, nI x.b.vx, nI x.b.vy, nI x.b.hp, nI x.b.pw, nI x.b.lf, nI x.mask] 27)).alloc (.cells #[nI 0, nI 0, nI 0, nI 0, nI 0, nI 0, nI 0, nI 0, nI 0, nI 0, nI 0, nI 0, nI 0, nI 0, nI 0, nI 0] 27) = q := ⟨_, rfl⟩
  replace O1 : Own W w1 (cellsA (wx.heap.size + 1) [nI 0, nI 0, nI 0, nI 0, nI 0, nI 0, nI 0, nI 0, nI 0, nI 0, nI 0, nI 0, nI 0, nI 0, nI 0, nI 0] :: cellsA wx.heap.size [nI x.kind, nI x.id.s, nI x.id.i, nI x.id.g, nI x.b.id.s, nI x.b.id.i, nI x.b.id.g, nI x.b.mask, nI x.b.x, nI x.b.y, nI x.b.vx, nI x.b.vy, nI x.b.hp, nI x.b.pw, nI x.b.lf, nI x.mask] :: Octs.rdA N s false :: l) := by rw [← hw1]; exact O1
  have kB := Lib.hid (fun wz (p : w1.Plus wz) => bad_O (Own.atP O1 wz p) 2 rfl hs (by simp [hb]))
  clear O0 h
  go_enter Try.func63, Try.ntmps63
  go_upto_region 1 with fail
  try rw [hw1]
  clear hw1
  generalize wx.heap.size = B at *
  go_upto_region 2 with (go_at_call 67; (with_reducible refine (kB.out _ (by (repeat (first | exact Plus.refl _ | apply Plus.plus | apply Plus.alloc | apply Plus.drew)))).mono ?_); rintro e w' ⟨rfl, e1, rfl⟩)
  have O2 := (O1.plus e1).pull 2 rfl
  obtain ⟨w2, hw2⟩ : ∃ q, w1.plus e1 = q := ⟨_, rfl⟩
  rw [hw2] at O2 ⊢
  have kS := Lib.hid (spoil_O O2 hs)
  clear hw2 O1 kB O2
  go_upto_region 3 with (go_at_call 66; (with_reducible refine (kS.out).mono ?_); rintro e w3 ⟨rfl, O4⟩)
  have O5 := (O4.pull 1 rfl).newCells [nI 0, nI 0, nI 0, nI 0, nI 0, nI 0, nI 0, nI 0, nI 0, nI 0, nI 0, nI 0, nI 0, nI 0, nI 0, nI 0] 27
  obtain ⟨w4, hw4⟩ : ∃ q, w3.alloc (.cells #[nI 0, nI 0, nI 0, nI 0, nI 0, nI 0, nI 0, nI 0, nI 0, nI 0, nI 0, nI 0, nI 0, nI 0, nI 0, nI 0] 27) = q := ⟨_, rfl⟩
  rw [hw4] at O5
  go_upto_region 4 with fail
  try rw [hw4]
  clear hw4
  generalize w3.heap.size = Z at *
  clear O4 kS
  obtain ⟨lQ, qQ, fQx⟩ := O5.cells 0 rfl
  have x0 := qQ 0 (by simp)
  have x1 := qQ 1 (by simp)
  have x2 := qQ 2 (by simp)
  have x3 := qQ 3 (by simp)
  have x4 := qQ 4 (by simp)
  have x5 := qQ 5 (by simp)
  have x6 := qQ 6 (by simp)
  have x7 := qQ 7 (by simp)
  have x8 := qQ 8 (by simp)
  have x9 := qQ 9 (by simp)
  have x10 := qQ 10 (by simp)
  have x11 := qQ 11 (by simp)
  have x12 := qQ 12 (by simp)
  have x13 := qQ 13 (by simp)
  have x14 := qQ 14 (by simp)
  have x15 := qQ 15 (by simp)
  simp only [List.getElem?_cons_succ, List.getElem?_cons_zero] at x0 x1 x2 x3 x4 x5 x6 x7 x8 x9 x10 x11 x12 x13 x14 x15
  haveI : InW Z w4 := ⟨lQ⟩
  clear qQ lQ
  clear fQx
  obtain ⟨lQ, qQ, fQr⟩ := O5.cells 1 rfl
  have r0 := qQ 0 (by simp)
  have r1 := qQ 1 (by simp)
  have r2 := qQ 2 (by simp)
  have r3 := qQ 3 (by simp)
  have r4 := qQ 4 (by simp)
  have r5 := qQ 5 (by simp)
  have r6 := qQ 6 (by simp)
  have r7 := qQ 7 (by simp)
  have r8 := qQ 8 (by simp)
  have r9 := qQ 9 (by simp)
  have r10 := qQ 10 (by simp)
  have r11 := qQ 11 (by simp)
  have r12 := qQ 12 (by simp)
  have r13 := qQ 13 (by simp)
  have r14 := qQ 14 (by simp)
  have r15 := qQ 15 (by simp)
  simp only [List.getElem?_cons_succ, List.getElem?_cons_zero] at r0 r1 r2 r3 r4 r5 r6 r7 r8 r9 r10 r11 r12 r13 r14 r15
  haveI : InW (B + 1) w4 := ⟨lQ⟩
  clear qQ lQ
  replace O5 := Lib.hid O5
  go_wp2_with fail
  have O6 := (((((((((((((((((O5.out).setCellAt 1 0 (nI 0) rfl (by simp)).setCellAt 1 1 (nI 0) rfl (by simp)).setCellAt 1 2 (nI 0) rfl (by simp)).setCellAt 1 3 (nI 0) rfl (by simp)).setCellAt 1 4 (nI 0) rfl (by simp)).setCellAt 1 5 (nI 0) rfl (by simp)).setCellAt 1 6 (nI 0) rfl (by simp)).setCellAt 1 7 (nI 0) rfl (by simp)).setCellAt 1 8 (nI 0) rfl (by simp)).setCellAt 1 9 (nI 0) rfl (by simp)).setCellAt 1 10 (nI 0) rfl (by simp)).setCellAt 1 11 (nI 0) rfl (by simp)).setCellAt 1 12 (nI 0) rfl (by simp)).setCellAt 1 13 (nI 0) rfl (by simp)).setCellAt 1 14 (nI 0) rfl (by simp)).setCellAt 1 15 (nI 0) rfl (by simp))
  simp only [List.set_cons_succ, List.set_cons_zero] at O6
  clear O5 fQr r0 x0 r1 x1 r2 x2 r3 x3 r4 x4 r5 x5 r6 x6 r7 x7 r8 x8 r9 x9 r10 x10 r11 x11 r12 x12 r13 x13 r14 x14 r15 x15
  obtain ⟨wf, hwf⟩ : ∃ q, ((((((((((((((((w4.setCell ⟨B + 1, 0, none⟩ (nI 0)).setCell ⟨B + 1, 1, none⟩ (nI 0)).setCell ⟨B + 1, 2, none⟩ (nI 0)).setCell ⟨B + 1, 3, none⟩ (nI 0)).setCell ⟨B + 1, 4, none⟩ (nI 0)).setCell ⟨B + 1, 5, none⟩ (nI 0)).setCell ⟨B + 1, 6, none⟩ (nI 0)).setCell ⟨B + 1, 7, none⟩ (nI 0)).setCell ⟨B + 1, 8, none⟩ (nI 0)).setCell ⟨B + 1, 9, none⟩ (nI 0)).setCell ⟨B + 1, 10, none⟩ (nI 0)).setCell ⟨B + 1, 11, none⟩ (nI 0)).setCell ⟨B + 1, 12, none⟩ (nI 0)).setCell ⟨B + 1, 13, none⟩ (nI 0)).setCell ⟨B + 1, 14, none⟩ (nI 0)).setCell ⟨B + 1, 15, none⟩ (nI 0)) = q := ⟨_, rfl⟩
  rw [hwf] at O6
  refine Eq.mpr (congrArg (bodyPost _ _ _ _ _) hwf) ?_
  clear hwf
  obtain ⟨-, q9, -⟩ := O6.cells 1 rfl
  have r0 := q9 0 (by simp)
  have r1 := q9 1 (by simp)
  have r2 := q9 2 (by simp)
  have r3 := q9 3 (by simp)
  have r4 := q9 4 (by simp)
  have r5 := q9 5 (by simp)
  have r6 := q9 6 (by simp)
  have r7 := q9 7 (by simp)
  have r8 := q9 8 (by simp)
  have r9 := q9 9 (by simp)
  have r10 := q9 10 (by simp)
  have r11 := q9 11 (by simp)
  have r12 := q9 12 (by simp)
  have r13 := q9 13 (by simp)
  have r14 := q9 14 (by simp)
  have r15 := q9 15 (by simp)
  simp only [List.getElem?_cons_succ, List.getElem?_cons_zero] at r0 r1 r2 r3 r4 r5 r6 r7 r8 r9 r10 r11 r12 r13 r14 r15
  clear q9
  exact bodyPost_ret (v := cmZ.v) (by simp [results, Try.results63, go_sem, *]) rfl ⟨rfl, (O6.drop.drop.rot1).drop⟩
end
end Go.Proofs.Ytjfjecjigakdnaa
