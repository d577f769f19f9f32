/- Plain laws and walks: CodTP, CodT. -/
import Derived.Test.YtpdlgflbcgemnaaGreatDoorGx
-- CodTP
/- codec: what is read: plain laws. -/
set_option linter.unusedSimpArgs false
set_option linter.unusedVariables false
set_option maxRecDepth 100000
namespace Go.Proofs.YtpdlgflbcgemnaaGreatDoor
open Go.RowKit
/-- what sound answers -/
def snd {α : Type} (ok : Bool) (z x : α) (s : ByteArray) (b : Bool) : α × ByteArray × Bool := if b || !ok then (z, ⟨#[]⟩, true) else (x, s, false)
def rs3 (s : ByteArray) (b : Bool) : IdR × ByteArray × Bool :=
  let p := Octs.rInt s b
  let q := Octs.rInt p.2.1 p.2.2
  let r := Octs.rInt q.2.1 q.2.2
  (⟨p.1, q.1, r.1⟩, r.2.1, r.2.2)
def tkI (s : ByteArray) (b : Bool) : IdR × ByteArray × Bool := snd (idB (rs3 s b).1) idZ (rs3 s b).1 (rs3 s b).2.1 (rs3 s b).2.2
def setF (b : BdR) (o : Nat) (x : Int) : BdR :=
  match o with
  | 4 => { b with x := x }
  | 5 => { b with y := x }
  | 6 => { b with vx := x }
  | 7 => { b with vy := x }
  | 8 => { b with hp := x }
  | 9 => { b with pw := x }
  | _ => { b with lf := x }
def stepB (t : BdR × ByteArray × Bool) (o : Nat) : BdR × ByteArray × Bool := (setF t.1 o (Octs.rInt t.2.1 t.2.2).1, (Octs.rInt t.2.1 t.2.2).2.1, (Octs.rInt t.2.1 t.2.2).2.2)
def fillB (t : BdR × ByteArray × Bool) (l : List Nat) : BdR × ByteArray × Bool := l.foldl stepB t
theorem fillB_snoc (t : BdR × ByteArray × Bool) (l : List Nat) (o : Nat) : fillB t (l ++ [o]) = stepB (fillB t l) o := by unfold fillB; rw [List.foldl_append]; rfl
/-- the rest, as it is read -/
def rawR (s : ByteArray) (b : Bool) : BdR × ByteArray × Bool :=
  if (Octs.rInt s b).1 < 0 ∨ 31 < (Octs.rInt s b).1 then (bdZ, ⟨#[]⟩, true)
  else fillB (⟨⟨0, 0, 0⟩, (Octs.rInt s b).1, 0, 0, 0, 0, 0, 0, 0⟩, (Octs.rInt s b).2.1, (Octs.rInt s b).2.2) (offs (Octs.rInt s b).1 7)
def tkR (s : ByteArray) (b : Bool) : BdR × ByteArray × Bool := snd true bdZ (rawR s b).1 (rawR s b).2.1 (rawR s b).2.2
def tkB (s : ByteArray) (b : Bool) : BdR × ByteArray × Bool :=
  let i := tkI s b
  let r := tkR i.2.1 i.2.2
  snd (okB { r.1 with id := i.1 }) bdZ { r.1 with id := i.1 } r.2.1 r.2.2
def inv (t : ByteArray × Bool) : Prop := t.2 = true → t.1 = ⟨#[]⟩
theorem setF_cs (b : BdR) (o : Nat) (x : Int) (h : 4 ≤ o ∧ o ≤ 10) : (setF b o x).cs = b.cs.set o (nI x) := by
  rcases (by omega : o = 4 ∨ o = 5 ∨ o = 6 ∨ o = 7 ∨ o = 8 ∨ o = 9 ∨ o = 10) with rfl | rfl | rfl | rfl | rfl | rfl | rfl <;> rfl
theorem fill_mask (t : BdR × ByteArray × Bool) (l : List Nat) : (fillB t l).1.mask = t.1.mask ∧ (fillB t l).1.id = t.1.id := by
  induction l generalizing t with
  | nil => exact ⟨rfl, rfl⟩
  | cons o r ih =>
    have := ih (stepB t o)
    have e : (stepB t o).1.mask = t.1.mask ∧ (stepB t o).1.id = t.1.id := by
      unfold stepB setF
      split <;> exact ⟨rfl, rfl⟩
    exact ⟨this.1.trans e.1, this.2.trans e.2⟩
theorem rInt_inv2 (s : ByteArray) (b : Bool) (h : inv (s, b)) : inv ((Octs.rInt s b).2.1, (Octs.rInt s b).2.2) := Octs.rInt_inv s b h
theorem fill_inv (t : BdR × ByteArray × Bool) (l : List Nat) (h : inv (t.2.1, t.2.2)) : inv ((fillB t l).2.1, (fillB t l).2.2) := by
  induction l generalizing t with
  | nil => exact h
  | cons o r ih => exact ih (stepB t o) (rInt_inv2 _ _ h)
theorem fill_size (t : BdR × ByteArray × Bool) (l : List Nat) : (fillB t l).2.1.size ≤ t.2.1.size := by
  induction l generalizing t with
  | nil => exact Nat.le_refl _
  | cons o r ih => exact Nat.le_trans (ih (stepB t o)) (Octs.rInt_size _ _)
theorem rs3_inv (s : ByteArray) (b : Bool) (h : inv (s, b)) : inv ((rs3 s b).2.1, (rs3 s b).2.2) := rInt_inv2 _ _ (rInt_inv2 _ _ (rInt_inv2 _ _ h))
theorem rs3_size (s : ByteArray) (b : Bool) : (rs3 s b).2.1.size ≤ s.size := Nat.le_trans (Octs.rInt_size _ _) (Nat.le_trans (Octs.rInt_size _ _) (Octs.rInt_size _ _))
theorem snd_inv {α : Type} (ok : Bool) (z x : α) (s : ByteArray) (b : Bool) : inv ((snd ok z x s b).2.1, (snd ok z x s b).2.2) := by
  unfold snd
  split
  · intro _; rfl
  · intro h; cases h
theorem snd_size {α : Type} (ok : Bool) (z x : α) (s : ByteArray) (b : Bool) : (snd ok z x s b).2.1.size ≤ s.size := by
  unfold snd
  split
  · exact Nat.zero_le _
  · exact Nat.le_refl _
theorem rCount_neg (s : ByteArray) (b : Bool) : Octs.rCount s b (-1) = (0, ⟨#[]⟩, true) := by
  unfold Octs.rCount
  rw [if_pos (by omega)]
theorem Octs.empty_of_size {s : ByteArray} (h : s.size = 0) : s = ⟨#[]⟩ := by
  cases s with
  | mk d =>
    have : d.size = 0 := h
    rw [Array.eq_empty_of_size_eq_zero this]
theorem Octs.RdAt.plusP {w wz : World} {N : Nat} {s : ByteArray} {b : Bool} (h : Octs.RdAt w N s b) (p : w.Plus wz) : Octs.RdAt wz N s b := by
  obtain ⟨e, rfl⟩ := p
  exact h.plus e
end Go.Proofs.YtpdlgflbcgemnaaGreatDoor
-- CodT
/- codec: readers: bad, sound, as: walks. -/
set_option linter.unusedSimpArgs false
set_option linter.unusedVariables false
namespace Go.Proofs.YtpdlgflbcgemnaaGreatDoor
open Go.RowKit
set_option maxRecDepth 100000
set_option maxHeartbeats 400000
theorem bad_any (w : World) (N : Nat) (s : ByteArray) (b : Bool) (h : Octs.RdAt w N s b) (hs : s.size ≤ 281474976710656) (hb : b = true → s = ⟨#[]⟩) : Calls Tryz.prog 78 #[Octs.rdV N] w fun e w' => e = .returned (.bool b) ∧ w.Plus w' := by
  have kL := Lib.hid (Octs.rdLeft w N s b h hs)
  have kD := fun wz (p : w.Plus wz) => Octs.rdDone wz N s b (h.plusP p)
  cases b with
  | true =>
    obtain rfl := hb rfl
    have hd : Octs.rDone ⟨#[]⟩ true = 2 := by decide +kernel
    rw [hd] at kD
    replace kD := Lib.hid kD
    have z : (((⟨#[]⟩ : ByteArray).size : Nat) : Int) = 0 := rfl
    rw [z] at kL
    clear hd z hb hs h
    go_enter Tryz.func78, Tryz.ntmps78
    go_wp2_with (first
      | (go_at_call 77; (with_reducible refine (kL.out).mono ?_); rintro e w' ⟨rfl, e1, rfl⟩)
      | (go_at_call 47; (with_reducible refine (kD.out _ (by (repeat (first | exact Plus.refl _ | apply Plus.plus | apply Plus.alloc | apply Plus.drew)))).mono ?_); rintro e w' ⟨rfl, e2, rfl⟩))
    go_ret
    exact ⟨rfl, by (repeat (first | exact Plus.refl _ | apply Plus.plus | apply Plus.alloc | apply Plus.drew))⟩
  | false =>
    by_cases hz : s.size = 0
    · obtain rfl : s = ⟨#[]⟩ := Octs.empty_of_size hz
      have hd : Octs.rDone ⟨#[]⟩ false = 0 := by decide +kernel
      rw [hd] at kD
      replace kD := Lib.hid kD
      have z : (((⟨#[]⟩ : ByteArray).size : Nat) : Int) = 0 := rfl
      rw [z] at kL
      clear hd z hz hb hs h
      go_enter Tryz.func78, Tryz.ntmps78
      go_wp2_with (first
        | (go_at_call 77; (with_reducible refine (kL.out).mono ?_); rintro e w' ⟨rfl, e1, rfl⟩)
        | (go_at_call 47; (with_reducible refine (kD.out _ (by (repeat (first | exact Plus.refl _ | apply Plus.plus | apply Plus.alloc | apply Plus.drew)))).mono ?_); rintro e w' ⟨rfl, e2, rfl⟩))
      go_ret
      exact ⟨rfl, by (repeat (first | exact Plus.refl _ | apply Plus.plus | apply Plus.alloc | apply Plus.drew))⟩
    · have q : ((s.size : Int) == 0) = false := by rw [beq_eq_false_iff_ne]; omega
      clear hb hs h kD hz
      go_enter Tryz.func78, Tryz.ntmps78
      go_wp2_with (go_at_call 77; (with_reducible refine (kL.out).mono ?_); rintro e w' ⟨rfl, e1, rfl⟩)
      go_ret
      exact ⟨rfl, by (repeat (first | exact Plus.refl _ | apply Plus.plus | apply Plus.alloc | apply Plus.drew))⟩
section
variable {W wx : World} {N : Nat} {s : ByteArray} {b : Bool} {l : List Asn}
theorem rdCount_O (h : Own W wx (Octs.rdA N s b :: l)) (hs : s.size ≤ 281474976710656) (most : Int) : Calls Tryz.prog 76 #[Octs.rdV N, nI most] wx (OwnTo W (nI (Octs.rCount s b most).1) (Octs.rdA N (Octs.rCount s b most).2.1 (Octs.rCount s b most).2.2 :: l)) :=
  Octs.rd_O h fun k => Octs.rdCount wx N s b most k hs
theorem spoil_O (h : Own W wx (Octs.rdA N s b :: l)) (hs : s.size ≤ 281474976710656) : Calls Tryz.prog 76 #[Octs.rdV N, nI (-1)] wx (OwnTo W (nI 0) (Octs.rdA N ⟨#[]⟩ true :: l)) := by
  have := rdCount_O h hs (-1)
  rw [rCount_neg] at this
  exact this
theorem bad_O (h : Own W wx l) (i : Nat) (hi : l[i]? = some (Octs.rdA N s b)) (hs : s.size ≤ 281474976710656) (hb : b = true → s = ⟨#[]⟩) : Calls Tryz.prog 78 #[Octs.rdV N] wx fun e w' => e = .returned (.bool b) ∧ wx.Plus w' := bad_any wx N s b (Octs.Own.rd i h hi) hs hb
theorem soundI_ok (h : Own W wx (Octs.rdA N s false :: l)) (hs : s.size ≤ 281474976710656) (x : IdR) : Calls Tryz.prog 82 #[Octs.rdV N, x.v, nI 0] wx (OwnTo W x.v (Octs.rdA N s false :: l)) := by
  have hb : True := trivial
  have O0 := h.newCells [nI x.s, nI x.i, nI x.g] 73
  have O1 := O0.newCells [nI 0, nI 0, nI 0] 73
  rw [World.size_alloc] at O1
  obtain ⟨w1, hw1⟩ : ∃ q, (wx.alloc (.cells #[nI x.s, nI x.i, nI x.g] 73)).alloc (.cells #[nI 0, nI 0, nI 0] 73) = q := ⟨_, rfl⟩
  replace O1 : Own W w1 (cellsA (wx.heap.size + 1) [nI 0, nI 0, nI 0] :: cellsA wx.heap.size [nI x.s, nI x.i, nI x.g] :: Octs.rdA N s false :: l) := by rw [← hw1]; exact O1
  have kB := Lib.hid (fun wz (p : w1.Plus wz) => bad_O (Own.atP O1 wz p) 2 rfl hs (by simp [hb]))
  clear O0 h
  go_enter Tryz.func82, Tryz.ntmps82
  go_upto_region 1 with fail
  try rw [hw1]
  clear hw1
  generalize wx.heap.size = B at *
  go_upto_region 5 with (go_at_call 78; (with_reducible refine (kB.out _ (by (repeat (first | exact Plus.refl _ | apply Plus.plus | apply Plus.alloc | apply Plus.drew)))).mono ?_); rintro e w' ⟨rfl, e1, rfl⟩)
  have O2 := O1.plus e1
  obtain ⟨w2, hw2⟩ : ∃ q, w1.plus e1 = q := ⟨_, rfl⟩
  rw [hw2] at O2 ⊢
  clear hw2 O1 kB
  obtain ⟨lQ, qQ, fQr⟩ := O2.cells 0 rfl
  have r0 := qQ 0 (by simp)
  have r1 := qQ 1 (by simp)
  have r2 := qQ 2 (by simp)
  simp only [List.getElem?_cons_succ, List.getElem?_cons_zero] at r0 r1 r2
  haveI : InW (B + 1) w2 := ⟨lQ⟩
  clear qQ lQ
  obtain ⟨lQ, qQ, fQx⟩ := O2.cells 1 rfl
  have x0 := qQ 0 (by simp)
  have x1 := qQ 1 (by simp)
  have x2 := qQ 2 (by simp)
  simp only [List.getElem?_cons_succ, List.getElem?_cons_zero] at x0 x1 x2
  haveI : InW B w2 := ⟨lQ⟩
  clear qQ lQ
  clear fQx
  replace O2 := Lib.hid O2
  go_wp2_with fail
  have O3 := ((((O2.out).setCellAt 0 0 (nI x.s) rfl (by simp)).setCellAt 0 1 (nI x.i) rfl (by simp)).setCellAt 0 2 (nI x.g) rfl (by simp))
  simp only [List.set_cons_succ, List.set_cons_zero] at O3
  clear O2 fQr r0 x0 r1 x1 r2 x2
  obtain ⟨wf, hwf⟩ : ∃ q, (((w2.setCell ⟨B + 1, 0, none⟩ (nI x.s)).setCell ⟨B + 1, 1, none⟩ (nI x.i)).setCell ⟨B + 1, 2, none⟩ (nI x.g)) = q := ⟨_, rfl⟩
  rw [hwf] at O3
  refine Eq.mpr (congrArg (bodyPost _ _ _ _ _) hwf) ?_
  clear hwf
  obtain ⟨-, q9, -⟩ := O3.cells 0 rfl
  have r0 := q9 0 (by simp)
  have r1 := q9 1 (by simp)
  have r2 := q9 2 (by simp)
  simp only [List.getElem?_cons_succ, List.getElem?_cons_zero] at r0 r1 r2
  clear q9
  exact bodyPost_ret (v := x.v) (by simp [results, Tryz.results82, go_sem, *]) rfl ⟨rfl, (O3.drop).drop⟩
theorem soundI_bad1 (h : Own W wx (Octs.rdA N s true :: l)) (hs : s.size ≤ 281474976710656) (hb : s = ⟨#[]⟩) (x : IdR) (e : Int) : Calls Tryz.prog 82 #[Octs.rdV N, x.v, nI e] wx (OwnTo W idZ.v (Octs.rdA N ⟨#[]⟩ true :: l)) := by
  have O0 := h.newCells [nI x.s, nI x.i, nI x.g] 73
  have O1 := O0.newCells [nI 0, nI 0, nI 0] 73
  rw [World.size_alloc] at O1
  obtain ⟨w1, hw1⟩ : ∃ q, (wx.alloc (.cells #[nI x.s, nI x.i, nI x.g] 73)).alloc (.cells #[nI 0, nI 0, nI 0] 73) = q := ⟨_, rfl⟩
  replace O1 : Own W w1 (cellsA (wx.heap.size + 1) [nI 0, nI 0, nI 0] :: cellsA wx.heap.size [nI x.s, nI x.i, nI x.g] :: Octs.rdA N s true :: l) := by rw [← hw1]; exact O1
  have kB := Lib.hid (fun wz (p : w1.Plus wz) => bad_O (Own.atP O1 wz p) 2 rfl hs (by simp [hb]))
  clear O0 h
  go_enter Tryz.func82, Tryz.ntmps82
  go_upto_region 1 with fail
  try rw [hw1]
  clear hw1
  generalize wx.heap.size = B at *
  go_upto_region 2 with (go_at_call 78; (with_reducible refine (kB.out _ (by (repeat (first | exact Plus.refl _ | apply Plus.plus | apply Plus.alloc | apply Plus.drew)))).mono ?_); rintro e w' ⟨rfl, e1, rfl⟩)
  have O2 := (O1.plus e1).pull 2 rfl
  obtain ⟨w2, hw2⟩ : ∃ q, w1.plus e1 = q := ⟨_, rfl⟩
  rw [hw2] at O2 ⊢
  have kS := Lib.hid (spoil_O O2 hs)
  clear hw2 O1 kB O2
  go_upto_region 3 with (go_at_call 76; (with_reducible refine (kS.out).mono ?_); rintro e w3 ⟨rfl, O4⟩)
  have O5 := (O4.pull 1 rfl).newCells [nI 0, nI 0, nI 0] 73
  obtain ⟨w4, hw4⟩ : ∃ q, w3.alloc (.cells #[nI 0, nI 0, nI 0] 73) = q := ⟨_, rfl⟩
  rw [hw4] at O5
  go_upto_region 4 with fail
  try rw [hw4]
  clear hw4
  generalize w3.heap.size = Z at *
  clear O4 kS
  obtain ⟨lQ, qQ, fQx⟩ := O5.cells 0 rfl
  have x0 := qQ 0 (by simp)
  have x1 := qQ 1 (by simp)
  have x2 := qQ 2 (by simp)
  simp only [List.getElem?_cons_succ, List.getElem?_cons_zero] at x0 x1 x2
  haveI : InW Z w4 := ⟨lQ⟩
  clear qQ lQ
  clear fQx
  obtain ⟨lQ, qQ, fQr⟩ := O5.cells 1 rfl
  have r0 := qQ 0 (by simp)
  have r1 := qQ 1 (by simp)
  have r2 := qQ 2 (by simp)
  simp only [List.getElem?_cons_succ, List.getElem?_cons_zero] at r0 r1 r2
  haveI : InW (B + 1) w4 := ⟨lQ⟩
  clear qQ lQ
  replace O5 := Lib.hid O5
  go_wp2_with fail
  have O6 := ((((O5.out).setCellAt 1 0 (nI 0) rfl (by simp)).setCellAt 1 1 (nI 0) rfl (by simp)).setCellAt 1 2 (nI 0) rfl (by simp))
  simp only [List.set_cons_succ, List.set_cons_zero] at O6
  clear O5 fQr r0 x0 r1 x1 r2 x2
  obtain ⟨wf, hwf⟩ : ∃ q, (((w4.setCell ⟨B + 1, 0, none⟩ (nI 0)).setCell ⟨B + 1, 1, none⟩ (nI 0)).setCell ⟨B + 1, 2, none⟩ (nI 0)) = q := ⟨_, rfl⟩
  rw [hwf] at O6
  refine Eq.mpr (congrArg (bodyPost _ _ _ _ _) hwf) ?_
  clear hwf
  obtain ⟨-, q9, -⟩ := O6.cells 1 rfl
  have r0 := q9 0 (by simp)
  have r1 := q9 1 (by simp)
  have r2 := q9 2 (by simp)
  simp only [List.getElem?_cons_succ, List.getElem?_cons_zero] at r0 r1 r2
  clear q9
  exact bodyPost_ret (v := idZ.v) (by simp [results, Tryz.results82, go_sem, *]) rfl ⟨rfl, (O6.drop.drop.rot1).drop⟩
theorem soundI_bad2 (h : Own W wx (Octs.rdA N s false :: l)) (hs : s.size ≤ 281474976710656) (x : IdR) (e : Int) (he : e ≠ 0) : Calls Tryz.prog 82 #[Octs.rdV N, x.v, nI e] wx (OwnTo W idZ.v (Octs.rdA N ⟨#[]⟩ true :: l)) := by
  have hb : True := trivial
  have q1 : (e != 0) = true := by simpa using he
  have O0 := h.newCells [nI x.s, nI x.i, nI x.g] 73
  have O1 := O0.newCells [nI 0, nI 0, nI 0] 73
  rw [World.size_alloc] at O1
  obtain ⟨w1, hw1⟩ : ∃ q, (wx.alloc (.cells #[nI x.s, nI x.i, nI x.g] 73)).alloc (.cells #[nI 0, nI 0, nI 0] 73) = q := ⟨_, rfl⟩
  replace O1 : Own W w1 (cellsA (wx.heap.size + 1) [nI 0, nI 0, nI 0] :: cellsA wx.heap.size [nI x.s, nI x.i, nI x.g] :: Octs.rdA N s false :: l) := by rw [← hw1]; exact O1
  have kB := Lib.hid (fun wz (p : w1.Plus wz) => bad_O (Own.atP O1 wz p) 2 rfl hs (by simp [hb]))
  clear O0 h
  go_enter Tryz.func82, Tryz.ntmps82
  go_upto_region 1 with fail
  try rw [hw1]
  clear hw1
  generalize wx.heap.size = B at *
  go_upto_region 2 with (go_at_call 78; (with_reducible refine (kB.out _ (by (repeat (first | exact Plus.refl _ | apply Plus.plus | apply Plus.alloc | apply Plus.drew)))).mono ?_); rintro e w' ⟨rfl, e1, rfl⟩)
  have O2 := (O1.plus e1).pull 2 rfl
  obtain ⟨w2, hw2⟩ : ∃ q, w1.plus e1 = q := ⟨_, rfl⟩
  rw [hw2] at O2 ⊢
  have kS := Lib.hid (spoil_O O2 hs)
  clear hw2 O1 kB O2
  go_upto_region 3 with (go_at_call 76; (with_reducible refine (kS.out).mono ?_); rintro e w3 ⟨rfl, O4⟩)
  have O5 := (O4.pull 1 rfl).newCells [nI 0, nI 0, nI 0] 73
  obtain ⟨w4, hw4⟩ : ∃ q, w3.alloc (.cells #[nI 0, nI 0, nI 0] 73) = q := ⟨_, rfl⟩
  rw [hw4] at O5
  go_upto_region 4 with fail
  try rw [hw4]
  clear hw4
  generalize w3.heap.size = Z at *
  clear O4 kS
  obtain ⟨lQ, qQ, fQx⟩ := O5.cells 0 rfl
  have x0 := qQ 0 (by simp)
  have x1 := qQ 1 (by simp)
  have x2 := qQ 2 (by simp)
  simp only [List.getElem?_cons_succ, List.getElem?_cons_zero] at x0 x1 x2
  haveI : InW Z w4 := ⟨lQ⟩
  clear qQ lQ
  clear fQx
  obtain ⟨lQ, qQ, fQr⟩ := O5.cells 1 rfl
  have r0 := qQ 0 (by simp)
  have r1 := qQ 1 (by simp)
  have r2 := qQ 2 (by simp)
  simp only [List.getElem?_cons_succ, List.getElem?_cons_zero] at r0 r1 r2
  haveI : InW (B + 1) w4 := ⟨lQ⟩
  clear qQ lQ
  replace O5 := Lib.hid O5
  go_wp2_with fail
  have O6 := ((((O5.out).setCellAt 1 0 (nI 0) rfl (by simp)).setCellAt 1 1 (nI 0) rfl (by simp)).setCellAt 1 2 (nI 0) rfl (by simp))
  simp only [List.set_cons_succ, List.set_cons_zero] at O6
  clear O5 fQr r0 x0 r1 x1 r2 x2
  obtain ⟨wf, hwf⟩ : ∃ q, (((w4.setCell ⟨B + 1, 0, none⟩ (nI 0)).setCell ⟨B + 1, 1, none⟩ (nI 0)).setCell ⟨B + 1, 2, none⟩ (nI 0)) = q := ⟨_, rfl⟩
  rw [hwf] at O6
  refine Eq.mpr (congrArg (bodyPost _ _ _ _ _) hwf) ?_
  clear hwf
  obtain ⟨-, q9, -⟩ := O6.cells 1 rfl
  have r0 := q9 0 (by simp)
  have r1 := q9 1 (by simp)
  have r2 := q9 2 (by simp)
  simp only [List.getElem?_cons_succ, List.getElem?_cons_zero] at r0 r1 r2
  clear q9
  exact bodyPost_ret (v := idZ.v) (by simp [results, Tryz.results82, go_sem, *]) rfl ⟨rfl, (O6.drop.drop.rot1).drop⟩
theorem soundB_ok (h : Own W wx (Octs.rdA N s false :: l)) (hs : s.size ≤ 281474976710656) (x : BdR) : Calls Tryz.prog 81 #[Octs.rdV N, x.v, nI 0] wx (OwnTo W x.v (Octs.rdA N s false :: l)) := by
  have hb : True := trivial
  have O0 := h.newCells [nI x.id.s, nI x.id.i, nI x.id.g, nI x.mask, nI x.x, nI x.y, nI x.vx, nI x.vy, nI x.hp, nI x.pw, nI x.lf] 75
  have O1 := O0.newCells [nI 0, nI 0, nI 0, nI 0, nI 0, nI 0, nI 0, nI 0, nI 0, nI 0, nI 0] 75
  rw [World.size_alloc] at O1
  obtain ⟨w1, hw1⟩ : ∃ q, (wx.alloc (.cells #[nI x.id.s, nI x.id.i, nI x.id.g, nI x.mask, nI x.x, nI x.y, nI x.vx, nI x.vy, nI x.hp, nI x.pw, nI x.lf] 75)).alloc (.cells #[nI 0, nI 0, nI 0, nI 0, nI 0, nI 0, nI 0, nI 0, nI 0, nI 0, nI 0] 75) = q := ⟨_, rfl⟩
  replace O1 : Own W w1 (cellsA (wx.heap.size + 1) [nI 0, nI 0, nI 0, nI 0, nI 0, nI 0, nI 0, nI 0, nI 0, nI 0, nI 0] :: cellsA wx.heap.size [nI x.id.s, nI x.id.i, nI x.id.g, nI x.mask, nI x.x, nI x.y, nI x.vx, nI x.vy, nI x.hp, nI x.pw, nI x.lf] :: Octs.rdA N s false :: l) := by rw [← hw1]; exact O1
  have kB := Lib.hid (fun wz (p : w1.Plus wz) => bad_O (Own.atP O1 wz p) 2 rfl hs (by simp [hb]))
  clear O0 h
  go_enter Tryz.func81, Tryz.ntmps81
  go_upto_region 1 with fail
  try rw [hw1]
  clear hw1
  generalize wx.heap.size = B at *
  go_upto_region 5 with (go_at_call 78; (with_reducible refine (kB.out _ (by (repeat (first | exact Plus.refl _ | apply Plus.plus | apply Plus.alloc | apply Plus.drew)))).mono ?_); rintro e w' ⟨rfl, e1, rfl⟩)
  have O2 := O1.plus e1
  obtain ⟨w2, hw2⟩ : ∃ q, w1.plus e1 = q := ⟨_, rfl⟩
  rw [hw2] at O2 ⊢
  clear hw2 O1 kB
  obtain ⟨lQ, qQ, fQr⟩ := O2.cells 0 rfl
  have r0 := qQ 0 (by simp)
  have r1 := qQ 1 (by simp)
  have r2 := qQ 2 (by simp)
  have r3 := qQ 3 (by simp)
  have r4 := qQ 4 (by simp)
  have r5 := qQ 5 (by simp)
  have r6 := qQ 6 (by simp)
  have r7 := qQ 7 (by simp)
  have r8 := qQ 8 (by simp)
  have r9 := qQ 9 (by simp)
  have r10 := qQ 10 (by simp)
  simp only [List.getElem?_cons_succ, List.getElem?_cons_zero] at r0 r1 r2 r3 r4 r5 r6 r7 r8 r9 r10
  haveI : InW (B + 1) w2 := ⟨lQ⟩
  clear qQ lQ
  obtain ⟨lQ, qQ, fQx⟩ := O2.cells 1 rfl
  have x0 := qQ 0 (by simp)
  have x1 := qQ 1 (by simp)
  have x2 := qQ 2 (by simp)
  have x3 := qQ 3 (by simp)
  have x4 := qQ 4 (by simp)
  have x5 := qQ 5 (by simp)
  have x6 := qQ 6 (by simp)
  have x7 := qQ 7 (by simp)
  have x8 := qQ 8 (by simp)
  have x9 := qQ 9 (by simp)
  have x10 := qQ 10 (by simp)
  simp only [List.getElem?_cons_succ, List.getElem?_cons_zero] at x0 x1 x2 x3 x4 x5 x6 x7 x8 x9 x10
  haveI : InW B w2 := ⟨lQ⟩
  clear qQ lQ
  clear fQx
  replace O2 := Lib.hid O2
  go_wp2_with fail
  have O3 := ((((((((((((O2.out).setCellAt 0 0 (nI x.id.s) rfl (by simp)).setCellAt 0 1 (nI x.id.i) rfl (by simp)).setCellAt 0 2 (nI x.id.g) rfl (by simp)).setCellAt 0 3 (nI x.mask) rfl (by simp)).setCellAt 0 4 (nI x.x) rfl (by simp)).setCellAt 0 5 (nI x.y) rfl (by simp)).setCellAt 0 6 (nI x.vx) rfl (by simp)).setCellAt 0 7 (nI x.vy) rfl (by simp)).setCellAt 0 8 (nI x.hp) rfl (by simp)).setCellAt 0 9 (nI x.pw) rfl (by simp)).setCellAt 0 10 (nI x.lf) rfl (by simp))
  simp only [List.set_cons_succ, List.set_cons_zero] at O3
  clear O2 fQr r0 x0 r1 x1 r2 x2 r3 x3 r4 x4 r5 x5 r6 x6 r7 x7 r8 x8 r9 x9 r10 x10
  obtain ⟨wf, hwf⟩ : ∃ q, (((((((((((w2.setCell ⟨B + 1, 0, none⟩ (nI x.id.s)).setCell ⟨B + 1, 1, none⟩ (nI x.id.i)).setCell ⟨B + 1, 2, none⟩ (nI x.id.g)).setCell ⟨B + 1, 3, none⟩ (nI x.mask)).setCell ⟨B + 1, 4, none⟩ (nI x.x)).setCell ⟨B + 1, 5, none⟩ (nI x.y)).setCell ⟨B + 1, 6, none⟩ (nI x.vx)).setCell ⟨B + 1, 7, none⟩ (nI x.vy)).setCell ⟨B + 1, 8, none⟩ (nI x.hp)).setCell ⟨B + 1, 9, none⟩ (nI x.pw)).setCell ⟨B + 1, 10, none⟩ (nI x.lf)) = q := ⟨_, rfl⟩
  rw [hwf] at O3
  refine Eq.mpr (congrArg (bodyPost _ _ _ _ _) hwf) ?_
  clear hwf
  obtain ⟨-, q9, -⟩ := O3.cells 0 rfl
  have r0 := q9 0 (by simp)
  have r1 := q9 1 (by simp)
  have r2 := q9 2 (by simp)
  have r3 := q9 3 (by simp)
  have r4 := q9 4 (by simp)
  have r5 := q9 5 (by simp)
  have r6 := q9 6 (by simp)
  have r7 := q9 7 (by simp)
  have r8 := q9 8 (by simp)
  have r9 := q9 9 (by simp)
  have r10 := q9 10 (by simp)
  simp only [List.getElem?_cons_succ, List.getElem?_cons_zero] at r0 r1 r2 r3 r4 r5 r6 r7 r8 r9 r10
  clear q9
  exact bodyPost_ret (v := x.v) (by simp [results, Tryz.results81, go_sem, *]) rfl ⟨rfl, (O3.drop).drop⟩
theorem soundB_bad1 (h : Own W wx (Octs.rdA N s true :: l)) (hs : s.size ≤ 281474976710656) (hb : s = ⟨#[]⟩) (x : BdR) (e : Int) : Calls Tryz.prog 81 #[Octs.rdV N, x.v, nI e] wx (OwnTo W bdZ.v (Octs.rdA N ⟨#[]⟩ true :: l)) := by
  have O0 := h.newCells [nI x.id.s, nI x.id.i, nI x.id.g, nI x.mask, nI x.x, nI x.y, nI x.vx, nI x.vy, nI x.hp, nI x.pw, nI x.lf] 75
  have O1 := O0.newCells [nI 0, nI 0, nI 0, nI 0, nI 0, nI 0, nI 0, nI 0, nI 0, nI 0, nI 0] 75
  rw [World.size_alloc] at O1
  obtain ⟨w1, hw1⟩ : ∃ q, (wx.alloc (.cells #[nI x.id.s, nI x.id.i, nI x.id.g, nI x.mask, nI x.x, nI x.y, nI x.vx, nI x.vy, nI x.hp, nI x.pw, nI x.lf] 75)).alloc (.cells #[nI 0, nI 0, nI 0, nI 0, nI 0, nI 0, nI 0, nI 0, nI 0, nI 0, nI 0] 75) = q := ⟨_, rfl⟩
  replace O1 : Own W w1 (cellsA (wx.heap.size + 1) [nI 0, nI 0, nI 0, nI 0, nI 0, nI 0, nI 0, nI 0, nI 0, nI 0, nI 0] :: cellsA wx.heap.size [nI x.id.s, nI x.id.i, nI x.id.g, nI x.mask, nI x.x, nI x.y, nI x.vx, nI x.vy, nI x.hp, nI x.pw, nI x.lf] :: Octs.rdA N s true :: l) := by rw [← hw1]; exact O1
  have kB := Lib.hid (fun wz (p : w1.Plus wz) => bad_O (Own.atP O1 wz p) 2 rfl hs (by simp [hb]))
  clear O0 h
  go_enter Tryz.func81, Tryz.ntmps81
  go_upto_region 1 with fail
  try rw [hw1]
  clear hw1
  generalize wx.heap.size = B at *
  go_upto_region 2 with (go_at_call 78; (with_reducible refine (kB.out _ (by (repeat (first | exact Plus.refl _ | apply Plus.plus | apply Plus.alloc | apply Plus.drew)))).mono ?_); rintro e w' ⟨rfl, e1, rfl⟩)
  have O2 := (O1.plus e1).pull 2 rfl
  obtain ⟨w2, hw2⟩ : ∃ q, w1.plus e1 = q := ⟨_, rfl⟩
  rw [hw2] at O2 ⊢
  have kS := Lib.hid (spoil_O O2 hs)
  clear hw2 O1 kB O2
  go_upto_region 3 with (go_at_call 76; (with_reducible refine (kS.out).mono ?_); rintro e w3 ⟨rfl, O4⟩)
  have O5 := (O4.pull 1 rfl).newCells [nI 0, nI 0, nI 0, nI 0, nI 0, nI 0, nI 0, nI 0, nI 0, nI 0, nI 0] 75
  obtain ⟨w4, hw4⟩ : ∃ q, w3.alloc (.cells #[nI 0, nI 0, nI 0, nI 0, nI 0, nI 0, nI 0, nI 0, nI 0, nI 0, nI 0] 75) = q := ⟨_, rfl⟩
  rw [hw4] at O5
  go_upto_region 4 with fail
  try rw [hw4]
  clear hw4
  generalize w3.heap.size = Z at *
  clear O4 kS
  obtain ⟨lQ, qQ, fQx⟩ := O5.cells 0 rfl
  have x0 := qQ 0 (by simp)
  have x1 := qQ 1 (by simp)
  have x2 := qQ 2 (by simp)
  have x3 := qQ 3 (by simp)
  have x4 := qQ 4 (by simp)
  have x5 := qQ 5 (by simp)
  have x6 := qQ 6 (by simp)
  have x7 := qQ 7 (by simp)
  have x8 := qQ 8 (by simp)
  have x9 := qQ 9 (by simp)
  have x10 := qQ 10 (by simp)
  simp only [List.getElem?_cons_succ, List.getElem?_cons_zero] at x0 x1 x2 x3 x4 x5 x6 x7 x8 x9 x10
  haveI : InW Z w4 := ⟨lQ⟩
  clear qQ lQ
  clear fQx
  obtain ⟨lQ, qQ, fQr⟩ := O5.cells 1 rfl
  have r0 := qQ 0 (by simp)
  have r1 := qQ 1 (by simp)
  have r2 := qQ 2 (by simp)
  have r3 := qQ 3 (by simp)
  have r4 := qQ 4 (by simp)
  have r5 := qQ 5 (by simp)
  have r6 := qQ 6 (by simp)
  have r7 := qQ 7 (by simp)
  have r8 := qQ 8 (by simp)
  have r9 := qQ 9 (by simp)
  have r10 := qQ 10 (by simp)
  simp only [List.getElem?_cons_succ, List.getElem?_cons_zero] at r0 r1 r2 r3 r4 r5 r6 r7 r8 r9 r10
  haveI : InW (B + 1) w4 := ⟨lQ⟩
  clear qQ lQ
  replace O5 := Lib.hid O5
  go_wp2_with fail
  have O6 := ((((((((((((O5.out).setCellAt 1 0 (nI 0) rfl (by simp)).setCellAt 1 1 (nI 0) rfl (by simp)).setCellAt 1 2 (nI 0) rfl (by simp)).setCellAt 1 3 (nI 0) rfl (by simp)).setCellAt 1 4 (nI 0) rfl (by simp)).setCellAt 1 5 (nI 0) rfl (by simp)).setCellAt 1 6 (nI 0) rfl (by simp)).setCellAt 1 7 (nI 0) rfl (by simp)).setCellAt 1 8 (nI 0) rfl (by simp)).setCellAt 1 9 (nI 0) rfl (by simp)).setCellAt 1 10 (nI 0) rfl (by simp))
  simp only [List.set_cons_succ, List.set_cons_zero] at O6
  clear O5 fQr r0 x0 r1 x1 r2 x2 r3 x3 r4 x4 r5 x5 r6 x6 r7 x7 r8 x8 r9 x9 r10 x10
  obtain ⟨wf, hwf⟩ : ∃ q, (((((((((((w4.setCell ⟨B + 1, 0, none⟩ (nI 0)).setCell ⟨B + 1, 1, none⟩ (nI 0)).setCell ⟨B + 1, 2, none⟩ (nI 0)).setCell ⟨B + 1, 3, none⟩ (nI 0)).setCell ⟨B + 1, 4, none⟩ (nI 0)).setCell ⟨B + 1, 5, none⟩ (nI 0)).setCell ⟨B + 1, 6, none⟩ (nI 0)).setCell ⟨B + 1, 7, none⟩ (nI 0)).setCell ⟨B + 1, 8, none⟩ (nI 0)).setCell ⟨B + 1, 9, none⟩ (nI 0)).setCell ⟨B + 1, 10, none⟩ (nI 0)) = q := ⟨_, rfl⟩
  rw [hwf] at O6
  refine Eq.mpr (congrArg (bodyPost _ _ _ _ _) hwf) ?_
  clear hwf
  obtain ⟨-, q9, -⟩ := O6.cells 1 rfl
  have r0 := q9 0 (by simp)
  have r1 := q9 1 (by simp)
  have r2 := q9 2 (by simp)
  have r3 := q9 3 (by simp)
  have r4 := q9 4 (by simp)
  have r5 := q9 5 (by simp)
  have r6 := q9 6 (by simp)
  have r7 := q9 7 (by simp)
  have r8 := q9 8 (by simp)
  have r9 := q9 9 (by simp)
  have r10 := q9 10 (by simp)
  simp only [List.getElem?_cons_succ, List.getElem?_cons_zero] at r0 r1 r2 r3 r4 r5 r6 r7 r8 r9 r10
  clear q9
  exact bodyPost_ret (v := bdZ.v) (by simp [results, Tryz.results81, go_sem, *]) rfl ⟨rfl, (O6.drop.drop.rot1).drop⟩
theorem soundB_bad2 (h : Own W wx (Octs.rdA N s false :: l)) (hs : s.size ≤ 281474976710656) (x : BdR) (e : Int) (he : e ≠ 0) : Calls Tryz.prog 81 #[Octs.rdV N, x.v, nI e] wx (OwnTo W bdZ.v (Octs.rdA N ⟨#[]⟩ true :: l)) := by
  have hb : True := trivial
  have q1 : (e != 0) = true := by simpa using he
  have O0 := h.newCells [nI x.id.s, nI x.id.i, nI x.id.g, nI x.mask, nI x.x, nI x.y, nI x.vx, nI x.vy, nI x.hp, nI x.pw, nI x.lf] 75
  have O1 := O0.newCells [nI 0, nI 0, nI 0, nI 0, nI 0, nI 0, nI 0, nI 0, nI 0, nI 0, nI 0] 75
  rw [World.size_alloc] at O1
  obtain ⟨w1, hw1⟩ : ∃ q, (wx.alloc (.cells #[nI x.id.s, nI x.id.i, nI x.id.g, nI x.mask, nI x.x, nI x.y, nI x.vx, nI x.vy, nI x.hp, nI x.pw, nI x.lf] 75)).alloc (.cells #[nI 0, nI 0, nI 0, nI 0, nI 0, nI 0, nI 0, nI 0, nI 0, nI 0, nI 0] 75) = q := ⟨_, rfl⟩
  replace O1 : Own W w1 (cellsA (wx.heap.size + 1) [nI 0, nI 0, nI 0, nI 0, nI 0, nI 0, nI 0, nI 0, nI 0, nI 0, nI 0] :: cellsA wx.heap.size [nI x.id.s, nI x.id.i, nI x.id.g, nI x.mask, nI x.x, nI x.y, nI x.vx, nI x.vy, nI x.hp, nI x.pw, nI x.lf] :: Octs.rdA N s false :: l) := by rw [← hw1]; exact O1
  have kB := Lib.hid (fun wz (p : w1.Plus wz) => bad_O (Own.atP O1 wz p) 2 rfl hs (by simp [hb]))
  clear O0 h
  go_enter Tryz.func81, Tryz.ntmps81
  go_upto_region 1 with fail
  try rw [hw1]
  clear hw1
  generalize wx.heap.size = B at *
  go_upto_region 2 with (go_at_call 78; (with_reducible refine (kB.out _ (by (repeat (first | exact Plus.refl _ | apply Plus.plus | apply Plus.alloc | apply Plus.drew)))).mono ?_); rintro e w' ⟨rfl, e1, rfl⟩)
  have O2 := (O1.plus e1).pull 2 rfl
  obtain ⟨w2, hw2⟩ : ∃ q, w1.plus e1 = q := ⟨_, rfl⟩
  rw [hw2] at O2 ⊢
  have kS := Lib.hid (spoil_O O2 hs)
  clear hw2 O1 kB O2
  go_upto_region 3 with (go_at_call 76; (with_reducible refine (kS.out).mono ?_); rintro e w3 ⟨rfl, O4⟩)
  have O5 := (O4.pull 1 rfl).newCells [nI 0, nI 0, nI 0, nI 0, nI 0, nI 0, nI 0, nI 0, nI 0, nI 0, nI 0] 75
  obtain ⟨w4, hw4⟩ : ∃ q, w3.alloc (.cells #[nI 0, nI 0, nI 0, nI 0, nI 0, nI 0, nI 0, nI 0, nI 0, nI 0, nI 0] 75) = q := ⟨_, rfl⟩
  rw [hw4] at O5
  go_upto_region 4 with fail
  try rw [hw4]
  clear hw4
  generalize w3.heap.size = Z at *
  clear O4 kS
  obtain ⟨lQ, qQ, fQx⟩ := O5.cells 0 rfl
  have x0 := qQ 0 (by simp)
  have x1 := qQ 1 (by simp)
  have x2 := qQ 2 (by simp)
  have x3 := qQ 3 (by simp)
  have x4 := qQ 4 (by simp)
  have x5 := qQ 5 (by simp)
  have x6 := qQ 6 (by simp)
  have x7 := qQ 7 (by simp)
  have x8 := qQ 8 (by simp)
  have x9 := qQ 9 (by simp)
  have x10 := qQ 10 (by simp)
  simp only [List.getElem?_cons_succ, List.getElem?_cons_zero] at x0 x1 x2 x3 x4 x5 x6 x7 x8 x9 x10
  haveI : InW Z w4 := ⟨lQ⟩
  clear qQ lQ
  clear fQx
  obtain ⟨lQ, qQ, fQr⟩ := O5.cells 1 rfl
  have r0 := qQ 0 (by simp)
  have r1 := qQ 1 (by simp)
  have r2 := qQ 2 (by simp)
  have r3 := qQ 3 (by simp)
  have r4 := qQ 4 (by simp)
  have r5 := qQ 5 (by simp)
  have r6 := qQ 6 (by simp)
  have r7 := qQ 7 (by simp)
  have r8 := qQ 8 (by simp)
  have r9 := qQ 9 (by simp)
  have r10 := qQ 10 (by simp)
  simp only [List.getElem?_cons_succ, List.getElem?_cons_zero] at r0 r1 r2 r3 r4 r5 r6 r7 r8 r9 r10
  haveI : InW (B + 1) w4 := ⟨lQ⟩
  clear qQ lQ
  replace O5 := Lib.hid O5
  go_wp2_with fail
  have O6 := ((((((((((((O5.out).setCellAt 1 0 (nI 0) rfl (by simp)).setCellAt 1 1 (nI 0) rfl (by simp)).setCellAt 1 2 (nI 0) rfl (by simp)).setCellAt 1 3 (nI 0) rfl (by simp)).setCellAt 1 4 (nI 0) rfl (by simp)).setCellAt 1 5 (nI 0) rfl (by simp)).setCellAt 1 6 (nI 0) rfl (by simp)).setCellAt 1 7 (nI 0) rfl (by simp)).setCellAt 1 8 (nI 0) rfl (by simp)).setCellAt 1 9 (nI 0) rfl (by simp)).setCellAt 1 10 (nI 0) rfl (by simp))
  simp only [List.set_cons_succ, List.set_cons_zero] at O6
  clear O5 fQr r0 x0 r1 x1 r2 x2 r3 x3 r4 x4 r5 x5 r6 x6 r7 x7 r8 x8 r9 x9 r10 x10
  obtain ⟨wf, hwf⟩ : ∃ q, (((((((((((w4.setCell ⟨B + 1, 0, none⟩ (nI 0)).setCell ⟨B + 1, 1, none⟩ (nI 0)).setCell ⟨B + 1, 2, none⟩ (nI 0)).setCell ⟨B + 1, 3, none⟩ (nI 0)).setCell ⟨B + 1, 4, none⟩ (nI 0)).setCell ⟨B + 1, 5, none⟩ (nI 0)).setCell ⟨B + 1, 6, none⟩ (nI 0)).setCell ⟨B + 1, 7, none⟩ (nI 0)).setCell ⟨B + 1, 8, none⟩ (nI 0)).setCell ⟨B + 1, 9, none⟩ (nI 0)).setCell ⟨B + 1, 10, none⟩ (nI 0)) = q := ⟨_, rfl⟩
  rw [hwf] at O6
  refine Eq.mpr (congrArg (bodyPost _ _ _ _ _) hwf) ?_
  clear hwf
  obtain ⟨-, q9, -⟩ := O6.cells 1 rfl
  have r0 := q9 0 (by simp)
  have r1 := q9 1 (by simp)
  have r2 := q9 2 (by simp)
  have r3 := q9 3 (by simp)
  have r4 := q9 4 (by simp)
  have r5 := q9 5 (by simp)
  have r6 := q9 6 (by simp)
  have r7 := q9 7 (by simp)
  have r8 := q9 8 (by simp)
  have r9 := q9 9 (by simp)
  have r10 := q9 10 (by simp)
  simp only [List.getElem?_cons_succ, List.getElem?_cons_zero] at r0 r1 r2 r3 r4 r5 r6 r7 r8 r9 r10
  clear q9
  exact bodyPost_ret (v := bdZ.v) (by simp [results, Tryz.results81, go_sem, *]) rfl ⟨rfl, (O6.drop.drop.rot1).drop⟩
theorem soundC_ok (h : Own W wx (Octs.rdA N s false :: l)) (hs : s.size ≤ 281474976710656) (x : CmdR) : Calls Tryz.prog 80 #[Octs.rdV N, x.v, nI 0] wx (OwnTo W x.v (Octs.rdA N s false :: l)) := by
  have hb : True := trivial
  have O0 := h.newCells [nI x.kind, nI x.id.s, nI x.id.i, nI x.id.g, nI x.b.id.s, nI x.b.id.i, nI x.b.id.g, nI x.b.mask, nI x.b.x, nI x.b.y, nI x.b.vx, nI x.b.vy, nI x.b.hp, nI x.b.pw, nI x.b.lf, nI x.mask] 77
  have O1 := O0.newCells [nI 0, nI 0, nI 0, nI 0, nI 0, nI 0, nI 0, nI 0, nI 0, nI 0, nI 0, nI 0, nI 0, nI 0, nI 0, nI 0] 77
  rw [World.size_alloc] at O1
  obtain ⟨w1, hw1⟩ : ∃ q, (wx.alloc (.cells #[nI x.kind, nI x.id.s, nI x.id.i, nI x.id.g, nI x.b.id.s, nI x.b.id.i, nI x.b.id.g, nI x.b.mask, nI x.b.x, nI x.b.y, nI x.b.vx, nI x.b.vy, nI x.b.hp, nI x.b.pw, nI x.b.lf, nI x.mask] 77)).alloc (.cells #[nI 0, nI 0, nI 0, nI 0, nI 0, nI 0, nI 0, nI 0, nI 0, nI 0, nI 0, nI 0, nI 0, nI 0, nI 0, nI 0] 77) = q := ⟨_, rfl⟩
  replace O1 : Own W w1 (cellsA (wx.heap.size + 1) [nI 0, nI 0, nI 0, nI 0, nI 0, nI 0, nI 0, nI 0, nI 0, nI 0, nI 0, nI 0, nI 0, nI 0, nI 0, nI 0] :: cellsA wx.heap.size [nI x.kind, nI x.id.s, nI x.id.i, nI x.id.g, nI x.b.id.s, nI x.b.id.i, nI x.b.id.g, nI x.b.mask, nI x.b.x, nI x.b.y, nI x.b.vx, nI x.b.vy, nI x.b.hp, nI x.b.pw, nI x.b.lf, nI x.mask] :: Octs.rdA N s false :: l) := by rw [← hw1]; exact O1
  have kB := Lib.hid (fun wz (p : w1.Plus wz) => bad_O (Own.atP O1 wz p) 2 rfl hs (by simp [hb]))
  clear O0 h
  go_enter Tryz.func80, Tryz.ntmps80
  go_upto_region 1 with fail
  try rw [hw1]
  clear hw1
  generalize wx.heap.size = B at *
  go_upto_region 5 with (go_at_call 78; (with_reducible refine (kB.out _ (by (repeat (first | exact Plus.refl _ | apply Plus.plus | apply Plus.alloc | apply Plus.drew)))).mono ?_); rintro e w' ⟨rfl, e1, rfl⟩)
  have O2 := O1.plus e1
  obtain ⟨w2, hw2⟩ : ∃ q, w1.plus e1 = q := ⟨_, rfl⟩
  rw [hw2] at O2 ⊢
  clear hw2 O1 kB
  obtain ⟨lQ, qQ, fQr⟩ := O2.cells 0 rfl
  have r0 := qQ 0 (by simp)
  have r1 := qQ 1 (by simp)
  have r2 := qQ 2 (by simp)
  have r3 := qQ 3 (by simp)
  have r4 := qQ 4 (by simp)
  have r5 := qQ 5 (by simp)
  have r6 := qQ 6 (by simp)
  have r7 := qQ 7 (by simp)
  have r8 := qQ 8 (by simp)
  have r9 := qQ 9 (by simp)
  have r10 := qQ 10 (by simp)
  have r11 := qQ 11 (by simp)
  have r12 := qQ 12 (by simp)
  have r13 := qQ 13 (by simp)
  have r14 := qQ 14 (by simp)
  have r15 := qQ 15 (by simp)
  simp only [List.getElem?_cons_succ, List.getElem?_cons_zero] at r0 r1 r2 r3 r4 r5 r6 r7 r8 r9 r10 r11 r12 r13 r14 r15
  haveI : InW (B + 1) w2 := ⟨lQ⟩
  clear qQ lQ
  obtain ⟨lQ, qQ, fQx⟩ := O2.cells 1 rfl
  have x0 := qQ 0 (by simp)
  have x1 := qQ 1 (by simp)
  have x2 := qQ 2 (by simp)
  have x3 := qQ 3 (by simp)
  have x4 := qQ 4 (by simp)
  have x5 := qQ 5 (by simp)
  have x6 := qQ 6 (by simp)
  have x7 := qQ 7 (by simp)
  have x8 := qQ 8 (by simp)
  have x9 := qQ 9 (by simp)
  have x10 := qQ 10 (by simp)
  have x11 := qQ 11 (by simp)
  have x12 := qQ 12 (by simp)
  have x13 := qQ 13 (by simp)
  have x14 := qQ 14 (by simp)
  have x15 := qQ 15 (by simp)
  simp only [List.getElem?_cons_succ, List.getElem?_cons_zero] at x0 x1 x2 x3 x4 x5 x6 x7 x8 x9 x10 x11 x12 x13 x14 x15
  haveI : InW B w2 := ⟨lQ⟩
  clear qQ lQ
  clear fQx
  replace O2 := Lib.hid O2
  go_wp2_with fail
  have O3 := (((((((((((((((((O2.out).setCellAt 0 0 (nI x.kind) rfl (by simp)).setCellAt 0 1 (nI x.id.s) rfl (by simp)).setCellAt 0 2 (nI x.id.i) rfl (by simp)).setCellAt 0 3 (nI x.id.g) rfl (by simp)).setCellAt 0 4 (nI x.b.id.s) rfl (by simp)).setCellAt 0 5 (nI x.b.id.i) rfl (by simp)).setCellAt 0 6 (nI x.b.id.g) rfl (by simp)).setCellAt 0 7 (nI x.b.mask) rfl (by simp)).setCellAt 0 8 (nI x.b.x) rfl (by simp)).setCellAt 0 9 (nI x.b.y) rfl (by simp)).setCellAt 0 10 (nI x.b.vx) rfl (by simp)).setCellAt 0 11 (nI x.b.vy) rfl (by simp)).setCellAt 0 12 (nI x.b.hp) rfl (by simp)).setCellAt 0 13 (nI x.b.pw) rfl (by simp)).setCellAt 0 14 (nI x.b.lf) rfl (by simp)).setCellAt 0 15 (nI x.mask) rfl (by simp))
  simp only [List.set_cons_succ, List.set_cons_zero] at O3
  clear O2 fQr r0 x0 r1 x1 r2 x2 r3 x3 r4 x4 r5 x5 r6 x6 r7 x7 r8 x8 r9 x9 r10 x10 r11 x11 r12 x12 r13 x13 r14 x14 r15 x15
  obtain ⟨wf, hwf⟩ : ∃ q, ((((((((((((((((w2.setCell ⟨B + 1, 0, none⟩ (nI x.kind)).setCell ⟨B + 1, 1, none⟩ (nI x.id.s)).setCell ⟨B + 1, 2, none⟩ (nI x.id.i)).setCell ⟨B + 1, 3, none⟩ (nI x.id.g)).setCell ⟨B + 1, 4, none⟩ (nI x.b.id.s)).setCell ⟨B + 1, 5, none⟩ (nI x.b.id.i)).setCell ⟨B + 1, 6, none⟩ (nI x.b.id.g)).setCell ⟨B + 1, 7, none⟩ (nI x.b.mask)).setCell ⟨B + 1, 8, none⟩ (nI x.b.x)).setCell ⟨B + 1, 9, none⟩ (nI x.b.y)).setCell ⟨B + 1, 10, none⟩ (nI x.b.vx)).setCell ⟨B + 1, 11, none⟩ (nI x.b.vy)).setCell ⟨B + 1, 12, none⟩ (nI x.b.hp)).setCell ⟨B + 1, 13, none⟩ (nI x.b.pw)).setCell ⟨B + 1, 14, none⟩ (nI x.b.lf)).setCell ⟨B + 1, 15, none⟩ (nI x.mask)) = q := ⟨_, rfl⟩
  rw [hwf] at O3
  refine Eq.mpr (congrArg (bodyPost _ _ _ _ _) hwf) ?_
  clear hwf
  obtain ⟨-, q9, -⟩ := O3.cells 0 rfl
  have r0 := q9 0 (by simp)
  have r1 := q9 1 (by simp)
  have r2 := q9 2 (by simp)
  have r3 := q9 3 (by simp)
  have r4 := q9 4 (by simp)
  have r5 := q9 5 (by simp)
  have r6 := q9 6 (by simp)
  have r7 := q9 7 (by simp)
  have r8 := q9 8 (by simp)
  have r9 := q9 9 (by simp)
  have r10 := q9 10 (by simp)
  have r11 := q9 11 (by simp)
  have r12 := q9 12 (by simp)
  have r13 := q9 13 (by simp)
  have r14 := q9 14 (by simp)
  have r15 := q9 15 (by simp)
  simp only [List.getElem?_cons_succ, List.getElem?_cons_zero] at r0 r1 r2 r3 r4 r5 r6 r7 r8 r9 r10 r11 r12 r13 r14 r15
  clear q9
  exact bodyPost_ret (v := x.v) (by simp [results, Tryz.results80, go_sem, *]) rfl ⟨rfl, (O3.drop).drop⟩
theorem soundC_bad1 (h : Own W wx (Octs.rdA N s true :: l)) (hs : s.size ≤ 281474976710656) (hb : s = ⟨#[]⟩) (x : CmdR) (e : Int) : Calls Tryz.prog 80 #[Octs.rdV N, x.v, nI e] wx (OwnTo W cmZ.v (Octs.rdA N ⟨#[]⟩ true :: l)) := by
  have O0 := h.newCells [nI x.kind, nI x.id.s, nI x.id.i, nI x.id.g, nI x.b.id.s, nI x.b.id.i, nI x.b.id.g, nI x.b.mask, nI x.b.x, nI x.b.y, nI x.b.vx, nI x.b.vy, nI x.b.hp, nI x.b.pw, nI x.b.lf, nI x.mask] 77
  have O1 := O0.newCells [nI 0, nI 0, nI 0, nI 0, nI 0, nI 0, nI 0, nI 0, nI 0, nI 0, nI 0, nI 0, nI 0, nI 0, nI 0, nI 0] 77
  rw [World.size_alloc] at O1
  obtain ⟨w1, hw1⟩ : ∃ q, (wx.alloc (.cells #[nI x.kind, nI x.id.s, nI x.id.i, nI x.id.g, nI x.b.id.s, nI x.b.id.i, nI x.b.id.g, nI x.b.mask, nI x.b.x, nI x.b.y, nI x.b.vx, nI x.b.vy, nI x.b.hp, nI x.b.pw, nI x.b.lf, nI x.mask] 77)).alloc (.cells #[nI 0, nI 0, nI 0, nI 0, nI 0, nI 0, nI 0, nI 0, nI 0, nI 0, nI 0, nI 0, nI 0, nI 0, nI 0, nI 0] 77) = q := ⟨_, rfl⟩
  replace O1 : Own W w1 (cellsA (wx.heap.size + 1) [nI 0, nI 0, nI 0, nI 0, nI 0, nI 0, nI 0, nI 0, nI 0, nI 0, nI 0, nI 0, nI 0, nI 0, nI 0, nI 0] :: cellsA wx.heap.size [nI x.kind, nI x.id.s, nI x.id.i, nI x.id.g, nI x.b.id.s, nI x.b.id.i, nI x.b.id.g, nI x.b.mask, nI x.b.x, nI x.b.y, nI x.b.vx, nI x.b.vy, nI x.b.hp, nI x.b.pw, nI x.b.lf, nI x.mask] :: Octs.rdA N s true :: l) := by rw [← hw1]; exact O1
  have kB := Lib.hid (fun wz (p : w1.Plus wz) => bad_O (Own.atP O1 wz p) 2 rfl hs (by simp [hb]))
  clear O0 h
  go_enter Tryz.func80, Tryz.ntmps80
  go_upto_region 1 with fail
  try rw [hw1]
  clear hw1
  generalize wx.heap.size = B at *
  go_upto_region 2 with (go_at_call 78; (with_reducible refine (kB.out _ (by (repeat (first | exact Plus.refl _ | apply Plus.plus | apply Plus.alloc | apply Plus.drew)))).mono ?_); rintro e w' ⟨rfl, e1, rfl⟩)
  have O2 := (O1.plus e1).pull 2 rfl
  obtain ⟨w2, hw2⟩ : ∃ q, w1.plus e1 = q := ⟨_, rfl⟩
  rw [hw2] at O2 ⊢
  have kS := Lib.hid (spoil_O O2 hs)
  clear hw2 O1 kB O2
  go_upto_region 3 with (go_at_call 76; (with_reducible refine (kS.out).mono ?_); rintro e w3 ⟨rfl, O4⟩)
  have O5 := (O4.pull 1 rfl).newCells [nI 0, nI 0, nI 0, nI 0, nI 0, nI 0, nI 0, nI 0, nI 0, nI 0, nI 0, nI 0, nI 0, nI 0, nI 0, nI 0] 77
  obtain ⟨w4, hw4⟩ : ∃ q, w3.alloc (.cells #[nI 0, nI 0, nI 0, nI 0, nI 0, nI 0, nI 0, nI 0, nI 0, nI 0, nI 0, nI 0, nI 0, nI 0, nI 0, nI 0] 77) = q := ⟨_, rfl⟩
  rw [hw4] at O5
  go_upto_region 4 with fail
  try rw [hw4]
  clear hw4
  generalize w3.heap.size = Z at *
  clear O4 kS
  obtain ⟨lQ, qQ, fQx⟩ := O5.cells 0 rfl
  have x0 := qQ 0 (by simp)
  have x1 := qQ 1 (by simp)
  have x2 := qQ 2 (by simp)
  have x3 := qQ 3 (by simp)
  have x4 := qQ 4 (by simp)
  have x5 := qQ 5 (by simp)
  have x6 := qQ 6 (by simp)
  have x7 := qQ 7 (by simp)
  have x8 := qQ 8 (by simp)
  have x9 := qQ 9 (by simp)
  have x10 := qQ 10 (by simp)
  have x11 := qQ 11 (by simp)
  have x12 := qQ 12 (by simp)
  have x13 := qQ 13 (by simp)
  have x14 := qQ 14 (by simp)
  have x15 := qQ 15 (by simp)
  simp only [List.getElem?_cons_succ, List.getElem?_cons_zero] at x0 x1 x2 x3 x4 x5 x6 x7 x8 x9 x10 x11 x12 x13 x14 x15
  haveI : InW Z w4 := ⟨lQ⟩
  clear qQ lQ
  clear fQx
  obtain ⟨lQ, qQ, fQr⟩ := O5.cells 1 rfl
  have r0 := qQ 0 (by simp)
  have r1 := qQ 1 (by simp)
  have r2 := qQ 2 (by simp)
  have r3 := qQ 3 (by simp)
  have r4 := qQ 4 (by simp)
  have r5 := qQ 5 (by simp)
  have r6 := qQ 6 (by simp)
  have r7 := qQ 7 (by simp)
  have r8 := qQ 8 (by simp)
  have r9 := qQ 9 (by simp)
  have r10 := qQ 10 (by simp)
  have r11 := qQ 11 (by simp)
  have r12 := qQ 12 (by simp)
  have r13 := qQ 13 (by simp)
  have r14 := qQ 14 (by simp)
  have r15 := qQ 15 (by simp)
  simp only [List.getElem?_cons_succ, List.getElem?_cons_zero] at r0 r1 r2 r3 r4 r5 r6 r7 r8 r9 r10 r11 r12 r13 r14 r15
  haveI : InW (B + 1) w4 := ⟨lQ⟩
  clear qQ lQ
  replace O5 := Lib.hid O5
  go_wp2_with fail
  have O6 := (((((((((((((((((O5.out).setCellAt 1 0 (nI 0) rfl (by simp)).setCellAt 1 1 (nI 0) rfl (by simp)).setCellAt 1 2 (nI 0) rfl (by simp)).setCellAt 1 3 (nI 0) rfl (by simp)).setCellAt 1 4 (nI 0) rfl (by simp)).setCellAt 1 5 (nI 0) rfl (by simp)).setCellAt 1 6 (nI 0) rfl (by simp)).setCellAt 1 7 (nI 0) rfl (by simp)).setCellAt 1 8 (nI 0) rfl (by simp)).setCellAt 1 9 (nI 0) rfl (by simp)).setCellAt 1 10 (nI 0) rfl (by simp)).setCellAt 1 11 (nI 0) rfl (by simp)).setCellAt 1 12 (nI 0) rfl (by simp)).setCellAt 1 13 (nI 0) rfl (by simp)).setCellAt 1 14 (nI 0) rfl (by simp)).setCellAt 1 15 (nI 0) rfl (by simp))
  simp only [List.set_cons_succ, List.set_cons_zero] at O6
  clear O5 fQr r0 x0 r1 x1 r2 x2 r3 x3 r4 x4 r5 x5 r6 x6 r7 x7 r8 x8 r9 x9 r10 x10 r11 x11 r12 x12 r13 x13 r14 x14 r15 x15
  obtain ⟨wf, hwf⟩ : ∃ q, ((((((((((((((((w4.setCell ⟨B + 1, 0, none⟩ (nI 0)).setCell ⟨B + 1, 1, none⟩ (nI 0)).setCell ⟨B + 1, 2, none⟩ (nI 0)).setCell ⟨B + 1, 3, none⟩ (nI 0)).setCell ⟨B + 1, 4, none⟩ (nI 0)).setCell ⟨B + 1, 5, none⟩ (nI 0)).setCell ⟨B + 1, 6, none⟩ (nI 0)).setCell ⟨B + 1, 7, none⟩ (nI 0)).setCell ⟨B + 1, 8, none⟩ (nI 0)).setCell ⟨B + 1, 9, none⟩ (nI 0)).setCell ⟨B + 1, 10, none⟩ (nI 0)).setCell ⟨B + 1, 11, none⟩ (nI 0)).setCell ⟨B + 1, 12, none⟩ (nI 0)).setCell ⟨B + 1, 13, none⟩ (nI 0)).setCell ⟨B + 1, 14, none⟩ (nI 0)).setCell ⟨B + 1, 15, none⟩ (nI 0)) = q := ⟨_, rfl⟩
  rw [hwf] at O6
  refine Eq.mpr (congrArg (bodyPost _ _ _ _ _) hwf) ?_
  clear hwf
  obtain ⟨-, q9, -⟩ := O6.cells 1 rfl
  have r0 := q9 0 (by simp)
  have r1 := q9 1 (by simp)
  have r2 := q9 2 (by simp)
  have r3 := q9 3 (by simp)
  have r4 := q9 4 (by simp)
  have r5 := q9 5 (by simp)
  have r6 := q9 6 (by simp)
  have r7 := q9 7 (by simp)
  have r8 := q9 8 (by simp)
  have r9 := q9 9 (by simp)
  have r10 := q9 10 (by simp)
  have r11 := q9 11 (by simp)
  have r12 := q9 12 (by simp)
  have r13 := q9 13 (by simp)
  have r14 := q9 14 (by simp)
  have r15 := q9 15 (by simp)
  simp only [List.getElem?_cons_succ, List.getElem?_cons_zero] at r0 r1 r2 r3 r4 r5 r6 r7 r8 r9 r10 r11 r12 r13 r14 r15
  clear q9
  exact bodyPost_ret (v := cmZ.v) (by simp [results, Tryz.results80, go_sem, *]) rfl ⟨rfl, (O6.drop.drop.rot1).drop⟩
theorem soundC_bad2 (h : Own W wx (Octs.rdA N s false :: l)) (hs : s.size ≤ 281474976710656) (x : CmdR) (e : Int) (he : e ≠ 0) : Calls Tryz.prog 80 #[Octs.rdV N, x.v, nI e] wx (OwnTo W cmZ.v (Octs.rdA N ⟨#[]⟩ true :: l)) := by
  have hb : True := trivial
  have q1 : (e != 0) = true := by simpa using he
  have O0 := h.newCells [nI x.kind, nI x.id.s, nI x.id.i, nI x.id.g, nI x.b.id.s, nI x.b.id.i, nI x.b.id.g, nI x.b.mask, nI x.b.x, nI x.b.y, nI x.b.vx, nI x.b.vy, nI x.b.hp, nI x.b.pw, nI x.b.lf, nI x.mask] 77
  have O1 := O0.newCells [nI 0, nI 0, nI 0, nI 0, nI 0, nI 0, nI 0, nI 0, nI 0, nI 0, nI 0, nI 0, nI 0, nI 0, nI 0, nI 0] 77
  rw [World.size_alloc] at O1
  obtain ⟨w1, hw1⟩ : ∃ q, (wx.alloc (.cells #[nI x.kind, nI x.id.s, nI x.id.i, nI x.id.g, nI x.b.id.s, nI x.b.id.i, nI x.b.id.g, nI x.b.mask, nI x.b.x, nI x.b.y, nI x.b.vx, nI x.b.vy, nI x.b.hp, nI x.b.pw, nI x.b.lf, nI x.mask] 77)).alloc (.cells #[nI 0, nI 0, nI 0, nI 0, nI 0, nI 0, nI 0, nI 0, nI 0, nI 0, nI 0, nI 0, nI 0, nI 0, nI 0, nI 0] 77) = q := ⟨_, rfl⟩
  replace O1 : Own W w1 (cellsA (wx.heap.size + 1) [nI 0, nI 0, nI 0, nI 0, nI 0, nI 0, nI 0, nI 0, nI 0, nI 0, nI 0, nI 0, nI 0, nI 0, nI 0, nI 0] :: cellsA wx.heap.size [nI x.kind, nI x.id.s, nI x.id.i, nI x.id.g, nI x.b.id.s, nI x.b.id.i, nI x.b.id.g, nI x.b.mask, nI x.b.x, nI x.b.y, nI x.b.vx, nI x.b.vy, nI x.b.hp, nI x.b.pw, nI x.b.lf, nI x.mask] :: Octs.rdA N s false :: l) := by rw [← hw1]; exact O1
  have kB := Lib.hid (fun wz (p : w1.Plus wz) => bad_O (Own.atP O1 wz p) 2 rfl hs (by simp [hb]))
  clear O0 h
  go_enter Tryz.func80, Tryz.ntmps80
  go_upto_region 1 with fail
  try rw [hw1]
  clear hw1
  generalize wx.heap.size = B at *
  go_upto_region 2 with (go_at_call 78; (with_reducible refine (kB.out _ (by (repeat (first | exact Plus.refl _ | apply Plus.plus | apply Plus.alloc | apply Plus.drew)))).mono ?_); rintro e w' ⟨rfl, e1, rfl⟩)
  have O2 := (O1.plus e1).pull 2 rfl
  obtain ⟨w2, hw2⟩ : ∃ q, w1.plus e1 = q := ⟨_, rfl⟩
  rw [hw2] at O2 ⊢
  have kS := Lib.hid (spoil_O O2 hs)
  clear hw2 O1 kB O2
  go_upto_region 3 with (go_at_call 76; (with_reducible refine (kS.out).mono ?_); rintro e w3 ⟨rfl, O4⟩)
  have O5 := (O4.pull 1 rfl).newCells [nI 0, nI 0, nI 0, nI 0, nI 0, nI 0, nI 0, nI 0, nI 0, nI 0, nI 0, nI 0, nI 0, nI 0, nI 0, nI 0] 77
  obtain ⟨w4, hw4⟩ : ∃ q, w3.alloc (.cells #[nI 0, nI 0, nI 0, nI 0, nI 0, nI 0, nI 0, nI 0, nI 0, nI 0, nI 0, nI 0, nI 0, nI 0, nI 0, nI 0] 77) = q := ⟨_, rfl⟩
  rw [hw4] at O5
  go_upto_region 4 with fail
  try rw [hw4]
  clear hw4
  generalize w3.heap.size = Z at *
  clear O4 kS
  obtain ⟨lQ, qQ, fQx⟩ := O5.cells 0 rfl
  have x0 := qQ 0 (by simp)
  have x1 := qQ 1 (by simp)
  have x2 := qQ 2 (by simp)
  have x3 := qQ 3 (by simp)
  have x4 := qQ 4 (by simp)
  have x5 := qQ 5 (by simp)
  have x6 := qQ 6 (by simp)
  have x7 := qQ 7 (by simp)
  have x8 := qQ 8 (by simp)
  have x9 := qQ 9 (by simp)
  have x10 := qQ 10 (by simp)
  have x11 := qQ 11 (by simp)
  have x12 := qQ 12 (by simp)
  have x13 := qQ 13 (by simp)
  have x14 := qQ 14 (by simp)
  have x15 := qQ 15 (by simp)
  simp only [List.getElem?_cons_succ, List.getElem?_cons_zero] at x0 x1 x2 x3 x4 x5 x6 x7 x8 x9 x10 x11 x12 x13 x14 x15
  haveI : InW Z w4 := ⟨lQ⟩
  clear qQ lQ
  clear fQx
  obtain ⟨lQ, qQ, fQr⟩ := O5.cells 1 rfl
  have r0 := qQ 0 (by simp)
  have r1 := qQ 1 (by simp)
  have r2 := qQ 2 (by simp)
  have r3 := qQ 3 (by simp)
  have r4 := qQ 4 (by simp)
  have r5 := qQ 5 (by simp)
  have r6 := qQ 6 (by simp)
  have r7 := qQ 7 (by simp)
  have r8 := qQ 8 (by simp)
  have r9 := qQ 9 (by simp)
  have r10 := qQ 10 (by simp)
  have r11 := qQ 11 (by simp)
  have r12 := qQ 12 (by simp)
  have r13 := qQ 13 (by simp)
  have r14 := qQ 14 (by simp)
  have r15 := qQ 15 (by simp)
  simp only [List.getElem?_cons_succ, List.getElem?_cons_zero] at r0 r1 r2 r3 r4 r5 r6 r7 r8 r9 r10 r11 r12 r13 r14 r15
  haveI : InW (B + 1) w4 := ⟨lQ⟩
  clear qQ lQ
  replace O5 := Lib.hid O5
  go_wp2_with fail
  have O6 := (((((((((((((((((O5.out).setCellAt 1 0 (nI 0) rfl (by simp)).setCellAt 1 1 (nI 0) rfl (by simp)).setCellAt 1 2 (nI 0) rfl (by simp)).setCellAt 1 3 (nI 0) rfl (by simp)).setCellAt 1 4 (nI 0) rfl (by simp)).setCellAt 1 5 (nI 0) rfl (by simp)).setCellAt 1 6 (nI 0) rfl (by simp)).setCellAt 1 7 (nI 0) rfl (by simp)).setCellAt 1 8 (nI 0) rfl (by simp)).setCellAt 1 9 (nI 0) rfl (by simp)).setCellAt 1 10 (nI 0) rfl (by simp)).setCellAt 1 11 (nI 0) rfl (by simp)).setCellAt 1 12 (nI 0) rfl (by simp)).setCellAt 1 13 (nI 0) rfl (by simp)).setCellAt 1 14 (nI 0) rfl (by simp)).setCellAt 1 15 (nI 0) rfl (by simp))
  simp only [List.set_cons_succ, List.set_cons_zero] at O6
  clear O5 fQr r0 x0 r1 x1 r2 x2 r3 x3 r4 x4 r5 x5 r6 x6 r7 x7 r8 x8 r9 x9 r10 x10 r11 x11 r12 x12 r13 x13 r14 x14 r15 x15
  obtain ⟨wf, hwf⟩ : ∃ q, ((((((((((((((((w4.setCell ⟨B + 1, 0, none⟩ (nI 0)).setCell ⟨B + 1, 1, none⟩ (nI 0)).setCell ⟨B + 1, 2, none⟩ (nI 0)).setCell ⟨B + 1, 3, none⟩ (nI 0)).setCell ⟨B + 1, 4, none⟩ (nI 0)).setCell ⟨B + 1, 5, none⟩ (nI 0)).setCell ⟨B + 1, 6, none⟩ (nI 0)).setCell ⟨B + 1, 7, none⟩ (nI 0)).setCell ⟨B + 1, 8, none⟩ (nI 0)).setCell ⟨B + 1, 9, none⟩ (nI 0)).setCell ⟨B + 1, 10, none⟩ (nI 0)).setCell ⟨B + 1, 11, none⟩ (nI 0)).setCell ⟨B + 1, 12, none⟩ (nI 0)).setCell ⟨B + 1, 13, none⟩ (nI 0)).setCell ⟨B + 1, 14, none⟩ (nI 0)).setCell ⟨B + 1, 15, none⟩ (nI 0)) = q := ⟨_, rfl⟩
  rw [hwf] at O6
  refine Eq.mpr (congrArg (bodyPost _ _ _ _ _) hwf) ?_
  clear hwf
  obtain ⟨-, q9, -⟩ := O6.cells 1 rfl
  have r0 := q9 0 (by simp)
  have r1 := q9 1 (by simp)
  have r2 := q9 2 (by simp)
  have r3 := q9 3 (by simp)
  have r4 := q9 4 (by simp)
  have r5 := q9 5 (by simp)
  have r6 := q9 6 (by simp)
  have r7 := q9 7 (by simp)
  have r8 := q9 8 (by simp)
  have r9 := q9 9 (by simp)
  have r10 := q9 10 (by simp)
  have r11 := q9 11 (by simp)
  have r12 := q9 12 (by simp)
  have r13 := q9 13 (by simp)
  have r14 := q9 14 (by simp)
  have r15 := q9 15 (by simp)
  simp only [List.getElem?_cons_succ, List.getElem?_cons_zero] at r0 r1 r2 r3 r4 r5 r6 r7 r8 r9 r10 r11 r12 r13 r14 r15
  clear q9
  exact bodyPost_ret (v := cmZ.v) (by simp [results, Tryz.results80, go_sem, *]) rfl ⟨rfl, (O6.drop.drop.rot1).drop⟩
end
end Go.Proofs.YtpdlgflbcgemnaaGreatDoor
