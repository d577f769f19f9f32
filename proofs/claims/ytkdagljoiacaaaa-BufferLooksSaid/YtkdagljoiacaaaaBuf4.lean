/- buffer: the reference's Do: walk. -/
import Derived.Test.YtkdagljoiacaaaaBuf3
set_option linter.unusedSimpArgs false
set_option linter.unusedVariables false
namespace Go.Proofs.Ytkdagljoiacaaaa
open Go.RowKit
set_option maxRecDepth 100000 in
set_option maxHeartbeats 4000000 in
theorem refDo_low {W wx : World} {R : Nat} {T : Tabs} {l : List Asn} (h : Own W wx (refA R T :: l)) (hg : GoodT T) (k : Int) (b : BdR) (m : Int) (ht : total T ≤ 80000) (hk : k < 1) :
    Calls Try.prog 21 #[chP R, DdR.v ⟨k, b, m⟩] wx (OwnTo W (nI 1) (refA R T :: l)) := by
  have O1 : Own W (wx.alloc (.cells #[nI k, nI b.id.s, nI b.id.i, nI b.id.g, nI b.mask, nI b.x, nI b.y, nI b.vx, nI b.vy, nI b.hp, nI b.pw, nI b.lf, nI m] 45)) (refA R T :: cellsA wx.heap.size [nI k, nI b.id.s, nI b.id.i, nI b.id.g, nI b.mask, nI b.x, nI b.y, nI b.vx, nI b.vy, nI b.hp, nI b.pw, nI b.lf, nI m] :: l) := (h.newCells [nI k, nI b.id.s, nI b.id.i, nI b.id.g, nI b.mask, nI b.x, nI b.y, nI b.vx, nI b.vy, nI b.hp, nI b.pw, nI b.lf, nI m] 45).rot1
  clear h
  generalize hX : wx.heap.size = X at *
  generalize hwy : wx.alloc (.cells #[nI k, nI b.id.s, nI b.id.i, nI b.id.g, nI b.mask, nI b.x, nI b.y, nI b.vx, nI b.vy, nI b.hp, nI b.pw, nI b.lf, nI m] 45) = wy at *
  obtain ⟨hInp, p0, p1, p2, p3, p4, p5, p6, p7, p8, p9, p10, p11, p12⟩ := ddAt (d := ⟨k, b, m⟩) 1 O1 rfl
  dsimp only at p0 p1 p2 p3 p4 p5 p6 p7 p8 p9 p10 p11 p12
  have O2 := O1
  clear O1
  replace O2 := Lib.hid O2
  go_enter Try.func21, Try.ntmps21
  go_wp2_with fail
  go_ret
  exact ⟨rfl, (O2.out.pull 1 rfl).drop⟩
set_option maxRecDepth 100000 in
set_option maxHeartbeats 4000000 in
theorem refDo_high {W wx : World} {R : Nat} {T : Tabs} {l : List Asn} (h : Own W wx (refA R T :: l)) (hg : GoodT T) (k : Int) (b : BdR) (m : Int) (ht : total T ≤ 80000) (hk : 4 < k) :
    Calls Try.prog 21 #[chP R, DdR.v ⟨k, b, m⟩] wx (OwnTo W (nI 1) (refA R T :: l)) := by
  have O1 : Own W (wx.alloc (.cells #[nI k, nI b.id.s, nI b.id.i, nI b.id.g, nI b.mask, nI b.x, nI b.y, nI b.vx, nI b.vy, nI b.hp, nI b.pw, nI b.lf, nI m] 45)) (refA R T :: cellsA wx.heap.size [nI k, nI b.id.s, nI b.id.i, nI b.id.g, nI b.mask, nI b.x, nI b.y, nI b.vx, nI b.vy, nI b.hp, nI b.pw, nI b.lf, nI m] :: l) := (h.newCells [nI k, nI b.id.s, nI b.id.i, nI b.id.g, nI b.mask, nI b.x, nI b.y, nI b.vx, nI b.vy, nI b.hp, nI b.pw, nI b.lf, nI m] 45).rot1
  clear h
  generalize hX : wx.heap.size = X at *
  generalize hwy : wx.alloc (.cells #[nI k, nI b.id.s, nI b.id.i, nI b.id.g, nI b.mask, nI b.x, nI b.y, nI b.vx, nI b.vy, nI b.hp, nI b.pw, nI b.lf, nI m] 45) = wy at *
  obtain ⟨hInp, p0, p1, p2, p3, p4, p5, p6, p7, p8, p9, p10, p11, p12⟩ := ddAt (d := ⟨k, b, m⟩) 1 O1 rfl
  dsimp only at p0 p1 p2 p3 p4 p5 p6 p7 p8 p9 p10 p11 p12
  have hk1 : ¬ k < 1 := by omega
  have O2 := O1
  clear O1
  replace O2 := Lib.hid O2
  go_enter Try.func21, Try.ntmps21
  go_wp2_with fail
  go_ret
  exact ⟨rfl, (O2.out.pull 1 rfl).drop⟩
set_option maxRecDepth 100000 in
set_option maxHeartbeats 4000000 in
theorem refDo_none {W wx : World} {R : Nat} {T : Tabs} {l : List Asn} (h : Own W wx (refA R T :: l)) (hg : GoodT T) (k : Int) (b : BdR) (m : Int) (ht : total T ≤ 80000) (hk : 1 < k) (hk4 : k ≤ 4) (hn : (findT T b.id).isSome = false) :
    Calls Try.prog 21 #[chP R, DdR.v ⟨k, b, m⟩] wx (OwnTo W (nI 6) (refA R T :: l)) := by
  have O1 : Own W (wx.alloc (.cells #[nI k, nI b.id.s, nI b.id.i, nI b.id.g, nI b.mask, nI b.x, nI b.y, nI b.vx, nI b.vy, nI b.hp, nI b.pw, nI b.lf, nI m] 45)) (refA R T :: cellsA wx.heap.size [nI k, nI b.id.s, nI b.id.i, nI b.id.g, nI b.mask, nI b.x, nI b.y, nI b.vx, nI b.vy, nI b.hp, nI b.pw, nI b.lf, nI m] :: l) := (h.newCells [nI k, nI b.id.s, nI b.id.i, nI b.id.g, nI b.mask, nI b.x, nI b.y, nI b.vx, nI b.vy, nI b.hp, nI b.pw, nI b.lf, nI m] 45).rot1
  clear h
  generalize hX : wx.heap.size = X at *
  generalize hwy : wx.alloc (.cells #[nI k, nI b.id.s, nI b.id.i, nI b.id.g, nI b.mask, nI b.x, nI b.y, nI b.vx, nI b.vy, nI b.hp, nI b.pw, nI b.lf, nI m] 45) = wy at *
  obtain ⟨hInp, p0, p1, p2, p3, p4, p5, p6, p7, p8, p9, p10, p11, p12⟩ := ddAt (d := ⟨k, b, m⟩) 1 O1 rfl
  dsimp only at p0 p1 p2 p3 p4 p5 p6 p7 p8 p9 p10 p11 p12
  have kG := fun wz (p : wy.Plus wz) => refGetS (Own.atP O1 wz p) hg b.id (by omega)
  obtain ⟨ob, hob⟩ : ∃ ob, ob = getS T b.id := ⟨_, rfl⟩
  obtain ⟨th, hth⟩ : ∃ th, th = (findT T b.id).isSome := ⟨_, rfl⟩
  have hk1 : ¬ k < 1 := by omega
  have hd1 : decide (k < 1) = false := by simp; omega
  have hd4 : decide (4 < k) = false := by simp; omega
  have he1 : (k == 1) = false := by simp; omega
  clear hk4
  rw [hn] at hth
  subst hth
  have hth := Eq.symm hn
  clear hn
  rw [← hob, ← hth] at kG
  replace kG := Lib.hid kG
  replace hob := Lib.hid hob
  replace hth := Lib.hid hth
  replace O1 := Lib.hid O1
  go_enter Try.func21, Try.ntmps21
  go_upto_region 6 with (go_at_call 37; (with_reducible refine (kG.out _ (by (repeat (first | exact Plus.refl _ | apply Plus.plus | apply Plus.alloc | apply Plus.drew)))).mono ?_); rintro e w' ⟨rfl, e1, rfl⟩)
  have O2 : Own W ((wy.plus e1).alloc (.cells #[nI ob.id.s, nI ob.id.i, nI ob.id.g, nI ob.mask, nI ob.x, nI ob.y, nI ob.vx, nI ob.vy, nI ob.hp, nI ob.pw, nI ob.lf] 40)) (refA R T :: cellsA (wy.heap.size + e1.objs.size) [nI ob.id.s, nI ob.id.i, nI ob.id.g, nI ob.mask, nI ob.x, nI ob.y, nI ob.vx, nI ob.vy, nI ob.hp, nI ob.pw, nI ob.lf] :: cellsA X [nI k, nI b.id.s, nI b.id.i, nI b.id.g, nI b.mask, nI b.x, nI b.y, nI b.vx, nI b.vy, nI b.hp, nI b.pw, nI b.lf, nI m] :: l) := by
    have := ((O1.out.plus e1).newCells [nI ob.id.s, nI ob.id.i, nI ob.id.g, nI ob.mask, nI ob.x, nI ob.y, nI ob.vx, nI ob.vy, nI ob.hp, nI ob.pw, nI ob.lf] 40).rot1
    rw [World.size_plus_eq] at this
    exact this
  generalize wy.heap.size + e1.objs.size = Y at *
  obtain ⟨w3, hw3⟩ : ∃ w3, (wy.plus e1).alloc (.cells #[nI ob.id.s, nI ob.id.i, nI ob.id.g, nI ob.mask, nI ob.x, nI ob.y, nI ob.vx, nI ob.vy, nI ob.hp, nI ob.pw, nI ob.lf] 40) = w3 := ⟨_, rfl⟩
  rw [hw3] at O2 ⊢
  clear hw3 hwy hX kG O1 hInp p0 p1 p2 p3 p4 p5 p6 p7 p8 p9 p10 p11 p12
  obtain ⟨hInp, p0, p1, p2, p3, p4, p5, p6, p7, p8, p9, p10, p11, p12⟩ := ddAt (d := ⟨k, b, m⟩) 2 O2 rfl
  dsimp only at p0 p1 p2 p3 p4 p5 p6 p7 p8 p9 p10 p11 p12
  obtain ⟨hInq, q0, q1, q2, q3, q4, q5, q6, q7, q8, q9, q10⟩ := boxAt (b := ob) 1 O2 rfl
  replace O2 := Lib.hid O2
  go_wp2_with fail
  go_ret
  exact ⟨rfl, ((O2.out.pull 1 rfl).drop.pull 1 rfl).drop⟩
set_option maxRecDepth 100000 in
set_option maxHeartbeats 4000000 in
theorem refDo_put {W wx : World} {R : Nat} {T : Tabs} {l : List Asn} (h : Own W wx (refA R T :: l)) (hg : GoodT T) (b : BdR) (m : Int) (ht : total T ≤ 80000) :
    Calls Try.prog 21 #[chP R, DdR.v ⟨1, b, m⟩] wx (OwnTo W (nI (putS T b).2) (refA R (putS T b).1 :: l)) := by
  have O1 : Own W (wx.alloc (.cells #[nI 1, nI b.id.s, nI b.id.i, nI b.id.g, nI b.mask, nI b.x, nI b.y, nI b.vx, nI b.vy, nI b.hp, nI b.pw, nI b.lf, nI m] 45)) (refA R T :: cellsA wx.heap.size [nI 1, nI b.id.s, nI b.id.i, nI b.id.g, nI b.mask, nI b.x, nI b.y, nI b.vx, nI b.vy, nI b.hp, nI b.pw, nI b.lf, nI m] :: l) := (h.newCells [nI 1, nI b.id.s, nI b.id.i, nI b.id.g, nI b.mask, nI b.x, nI b.y, nI b.vx, nI b.vy, nI b.hp, nI b.pw, nI b.lf, nI m] 45).rot1
  clear h
  generalize hX : wx.heap.size = X at *
  generalize hwy : wx.alloc (.cells #[nI 1, nI b.id.s, nI b.id.i, nI b.id.g, nI b.mask, nI b.x, nI b.y, nI b.vx, nI b.vy, nI b.hp, nI b.pw, nI b.lf, nI m] 45) = wy at *
  obtain ⟨hInp, p0, p1, p2, p3, p4, p5, p6, p7, p8, p9, p10, p11, p12⟩ := ddAt (d := ⟨1, b, m⟩) 1 O1 rfl
  dsimp only at p0 p1 p2 p3 p4 p5 p6 p7 p8 p9 p10 p11 p12
  have O2 := O1
  clear O1
  have kP := refPutS O2 hg b (by omega)
  generalize (putS T b).2 = z1 at *
  generalize (putS T b).1 = T1 at *
  replace kP := Lib.hid kP
  replace O2 := Lib.hid O2
  go_enter Try.func21, Try.ntmps21
  go_wp2_with (go_at_call 36; (with_reducible refine kP.out.mono ?_); rintro e w4 ⟨rfl, O3⟩)
  go_ret
  exact ⟨rfl, (O3.pull 1 rfl).drop⟩
set_option maxRecDepth 100000 in
set_option maxHeartbeats 4000000 in
theorem refDo_remove {W wx : World} {R : Nat} {T : Tabs} {l : List Asn} (h : Own W wx (refA R T :: l)) (hg : GoodT T) (b : BdR) (m : Int) (ht : total T ≤ 80000) (hn : (findT T b.id).isSome = true) :
    Calls Try.prog 21 #[chP R, DdR.v ⟨2, b, m⟩] wx (OwnTo W (nI 0) (refA R (removeS T b.id).1 :: l)) := by
  have O1 : Own W (wx.alloc (.cells #[nI 2, nI b.id.s, nI b.id.i, nI b.id.g, nI b.mask, nI b.x, nI b.y, nI b.vx, nI b.vy, nI b.hp, nI b.pw, nI b.lf, nI m] 45)) (refA R T :: cellsA wx.heap.size [nI 2, nI b.id.s, nI b.id.i, nI b.id.g, nI b.mask, nI b.x, nI b.y, nI b.vx, nI b.vy, nI b.hp, nI b.pw, nI b.lf, nI m] :: l) := (h.newCells [nI 2, nI b.id.s, nI b.id.i, nI b.id.g, nI b.mask, nI b.x, nI b.y, nI b.vx, nI b.vy, nI b.hp, nI b.pw, nI b.lf, nI m] 45).rot1
  clear h
  generalize hX : wx.heap.size = X at *
  generalize hwy : wx.alloc (.cells #[nI 2, nI b.id.s, nI b.id.i, nI b.id.g, nI b.mask, nI b.x, nI b.y, nI b.vx, nI b.vy, nI b.hp, nI b.pw, nI b.lf, nI m] 45) = wy at *
  obtain ⟨hInp, p0, p1, p2, p3, p4, p5, p6, p7, p8, p9, p10, p11, p12⟩ := ddAt (d := ⟨2, b, m⟩) 1 O1 rfl
  dsimp only at p0 p1 p2 p3 p4 p5 p6 p7 p8 p9 p10 p11 p12
  have kG := fun wz (p : wy.Plus wz) => refGetS (Own.atP O1 wz p) hg b.id (by omega)
  obtain ⟨ob, hob⟩ : ∃ ob, ob = getS T b.id := ⟨_, rfl⟩
  obtain ⟨th, hth⟩ : ∃ th, th = (findT T b.id).isSome := ⟨_, rfl⟩
  rw [hn] at hth
  subst hth
  have hth := Eq.symm hn
  clear hn
  rw [← hob, ← hth] at kG
  replace kG := Lib.hid kG
  replace hob := Lib.hid hob
  replace hth := Lib.hid hth
  replace O1 := Lib.hid O1
  go_enter Try.func21, Try.ntmps21
  go_upto_region 6 with (go_at_call 37; (with_reducible refine (kG.out _ (by (repeat (first | exact Plus.refl _ | apply Plus.plus | apply Plus.alloc | apply Plus.drew)))).mono ?_); rintro e w' ⟨rfl, e1, rfl⟩)
  have O2 : Own W ((wy.plus e1).alloc (.cells #[nI ob.id.s, nI ob.id.i, nI ob.id.g, nI ob.mask, nI ob.x, nI ob.y, nI ob.vx, nI ob.vy, nI ob.hp, nI ob.pw, nI ob.lf] 40)) (refA R T :: cellsA (wy.heap.size + e1.objs.size) [nI ob.id.s, nI ob.id.i, nI ob.id.g, nI ob.mask, nI ob.x, nI ob.y, nI ob.vx, nI ob.vy, nI ob.hp, nI ob.pw, nI ob.lf] :: cellsA X [nI 2, nI b.id.s, nI b.id.i, nI b.id.g, nI b.mask, nI b.x, nI b.y, nI b.vx, nI b.vy, nI b.hp, nI b.pw, nI b.lf, nI m] :: l) := by
    have := ((O1.out.plus e1).newCells [nI ob.id.s, nI ob.id.i, nI ob.id.g, nI ob.mask, nI ob.x, nI ob.y, nI ob.vx, nI ob.vy, nI ob.hp, nI ob.pw, nI ob.lf] 40).rot1
    rw [World.size_plus_eq] at this
    exact this
  generalize wy.heap.size + e1.objs.size = Y at *
  obtain ⟨w3, hw3⟩ : ∃ w3, (wy.plus e1).alloc (.cells #[nI ob.id.s, nI ob.id.i, nI ob.id.g, nI ob.mask, nI ob.x, nI ob.y, nI ob.vx, nI ob.vy, nI ob.hp, nI ob.pw, nI ob.lf] 40) = w3 := ⟨_, rfl⟩
  rw [hw3] at O2 ⊢
  clear hw3 hwy hX kG O1 hInp p0 p1 p2 p3 p4 p5 p6 p7 p8 p9 p10 p11 p12
  obtain ⟨hInp, p0, p1, p2, p3, p4, p5, p6, p7, p8, p9, p10, p11, p12⟩ := ddAt (d := ⟨2, b, m⟩) 2 O2 rfl
  dsimp only at p0 p1 p2 p3 p4 p5 p6 p7 p8 p9 p10 p11 p12
  obtain ⟨hInq, q0, q1, q2, q3, q4, q5, q6, q7, q8, q9, q10⟩ := boxAt (b := ob) 1 O2 rfl
  have kP := refRemoveS O2 hg b.id (by omega)
  generalize (removeS T b.id).2 = z1 at *
  generalize (removeS T b.id).1 = T1 at *
  replace kP := Lib.hid kP
  replace O2 := Lib.hid O2
  go_wp2_with (go_at_call 38; (with_reducible refine kP.out.mono ?_); rintro e w4 ⟨rfl, O3⟩)
  go_ret
  exact ⟨rfl, ((O3.pull 1 rfl).drop.pull 1 rfl).drop⟩
set_option maxRecDepth 100000 in
set_option maxHeartbeats 4000000 in
theorem refDo_set {W wx : World} {R : Nat} {T : Tabs} {l : List Asn} (h : Own W wx (refA R T :: l)) (hg : GoodT T) (b : BdR) (m : Int) (ht : total T ≤ 80000) (hm : -9223372036854775808 ≤ b.mask ∧ b.mask ≤ 9223372036854775807) (hn : (findT T b.id).isSome = true) :
    Calls Try.prog 21 #[chP R, DdR.v ⟨3, b, m⟩] wx (OwnTo W (nI (writeS T (withB (getS T b.id) b)).2) (refA R (writeS T (withB (getS T b.id) b)).1 :: l)) := by
  have O1 : Own W (wx.alloc (.cells #[nI 3, nI b.id.s, nI b.id.i, nI b.id.g, nI b.mask, nI b.x, nI b.y, nI b.vx, nI b.vy, nI b.hp, nI b.pw, nI b.lf, nI m] 45)) (refA R T :: cellsA wx.heap.size [nI 3, nI b.id.s, nI b.id.i, nI b.id.g, nI b.mask, nI b.x, nI b.y, nI b.vx, nI b.vy, nI b.hp, nI b.pw, nI b.lf, nI m] :: l) := (h.newCells [nI 3, nI b.id.s, nI b.id.i, nI b.id.g, nI b.mask, nI b.x, nI b.y, nI b.vx, nI b.vy, nI b.hp, nI b.pw, nI b.lf, nI m] 45).rot1
  clear h
  generalize hX : wx.heap.size = X at *
  generalize hwy : wx.alloc (.cells #[nI 3, nI b.id.s, nI b.id.i, nI b.id.g, nI b.mask, nI b.x, nI b.y, nI b.vx, nI b.vy, nI b.hp, nI b.pw, nI b.lf, nI m] 45) = wy at *
  obtain ⟨hInp, p0, p1, p2, p3, p4, p5, p6, p7, p8, p9, p10, p11, p12⟩ := ddAt (d := ⟨3, b, m⟩) 1 O1 rfl
  dsimp only at p0 p1 p2 p3 p4 p5 p6 p7 p8 p9 p10 p11 p12
  have kG := fun wz (p : wy.Plus wz) => refGetS (Own.atP O1 wz p) hg b.id (by omega)
  obtain ⟨ob, hob⟩ : ∃ ob, ob = getS T b.id := ⟨_, rfl⟩
  obtain ⟨th, hth⟩ : ∃ th, th = (findT T b.id).isSome := ⟨_, rfl⟩
  rw [hn] at hth
  subst hth
  have hth := Eq.symm hn
  clear hn
  obtain ⟨nb, hnb⟩ : ∃ nb, nb = withB ob b := ⟨_, rfl⟩
  obtain ⟨z1, hz1⟩ : ∃ z, z = (writeS T nb).2 := ⟨_, rfl⟩
  obtain ⟨T1, hT1⟩ : ∃ z, z = (writeS T nb).1 := ⟨_, rfl⟩
  rw [← hob, ← hnb, ← hz1, ← hT1]
  replace hz1 := Lib.hid hz1
  replace hT1 := Lib.hid hT1
  replace hnb := Lib.hid hnb
  rw [← hob, ← hth] at kG
  replace kG := Lib.hid kG
  replace hob := Lib.hid hob
  replace hth := Lib.hid hth
  replace O1 := Lib.hid O1
  go_enter Try.func21, Try.ntmps21
  go_upto_region 6 with (go_at_call 37; (with_reducible refine (kG.out _ (by (repeat (first | exact Plus.refl _ | apply Plus.plus | apply Plus.alloc | apply Plus.drew)))).mono ?_); rintro e w' ⟨rfl, e1, rfl⟩)
  have O2 : Own W ((wy.plus e1).alloc (.cells #[nI ob.id.s, nI ob.id.i, nI ob.id.g, nI ob.mask, nI ob.x, nI ob.y, nI ob.vx, nI ob.vy, nI ob.hp, nI ob.pw, nI ob.lf] 40)) (refA R T :: cellsA (wy.heap.size + e1.objs.size) [nI ob.id.s, nI ob.id.i, nI ob.id.g, nI ob.mask, nI ob.x, nI ob.y, nI ob.vx, nI ob.vy, nI ob.hp, nI ob.pw, nI ob.lf] :: cellsA X [nI 3, nI b.id.s, nI b.id.i, nI b.id.g, nI b.mask, nI b.x, nI b.y, nI b.vx, nI b.vy, nI b.hp, nI b.pw, nI b.lf, nI m] :: l) := by
    have := ((O1.out.plus e1).newCells [nI ob.id.s, nI ob.id.i, nI ob.id.g, nI ob.mask, nI ob.x, nI ob.y, nI ob.vx, nI ob.vy, nI ob.hp, nI ob.pw, nI ob.lf] 40).rot1
    rw [World.size_plus_eq] at this
    exact this
  generalize wy.heap.size + e1.objs.size = Y at *
  obtain ⟨w3, hw3⟩ : ∃ w3, (wy.plus e1).alloc (.cells #[nI ob.id.s, nI ob.id.i, nI ob.id.g, nI ob.mask, nI ob.x, nI ob.y, nI ob.vx, nI ob.vy, nI ob.hp, nI ob.pw, nI ob.lf] 40) = w3 := ⟨_, rfl⟩
  rw [hw3] at O2 ⊢
  clear hw3 hwy hX kG O1 hInp p0 p1 p2 p3 p4 p5 p6 p7 p8 p9 p10 p11 p12
  obtain ⟨hInp, p0, p1, p2, p3, p4, p5, p6, p7, p8, p9, p10, p11, p12⟩ := ddAt (d := ⟨3, b, m⟩) 2 O2 rfl
  dsimp only at p0 p1 p2 p3 p4 p5 p6 p7 p8 p9 p10 p11 p12
  obtain ⟨hInq, q0, q1, q2, q3, q4, q5, q6, q7, q8, q9, q10⟩ := boxAt (b := ob) 1 O2 rfl
  have kV := fun w' => refWith_any ob b w' hm
  rw [← hnb.out] at kV
  have kP := fun wz (p : w3.Plus wz) => refWriteS (Own.atP O2 wz p) hg nb (by omega)
  rw [← hz1.out, ← hT1.out] at kP
  clear hz1 hT1 hnb
  replace kV := Lib.hid kV
  replace kP := Lib.hid kP
  replace O2 := Lib.hid O2
  go_wp2_with (first
    | (go_at_call 24; (with_reducible refine (kV.out _).mono ?_); rintro e w' ⟨rfl, e2, rfl⟩)
    | (go_at_call 39; (with_reducible refine (kP.out _ (by (repeat (first | exact Plus.refl _ | apply Plus.plus | apply Plus.alloc | apply Plus.drew)))).mono ?_); rintro e w4 ⟨rfl, O3⟩))
  go_ret
  exact ⟨rfl, ((O3.pull 1 rfl).drop.pull 1 rfl).drop⟩
set_option maxRecDepth 100000 in
set_option maxHeartbeats 4000000 in
theorem refDo_drop {W wx : World} {R : Nat} {T : Tabs} {l : List Asn} (h : Own W wx (refA R T :: l)) (hg : GoodT T) (b : BdR) (m : Int) (ht : total T ≤ 80000) (hm : -9223372036854775808 ≤ m ∧ m ≤ 9223372036854775807) (hn : (findT T b.id).isSome = true) :
    Calls Try.prog 21 #[chP R, DdR.v ⟨4, b, m⟩] wx (OwnTo W (nI (writeS T (withoutB (getS T b.id) m)).2) (refA R (writeS T (withoutB (getS T b.id) m)).1 :: l)) := by
  have O1 : Own W (wx.alloc (.cells #[nI 4, nI b.id.s, nI b.id.i, nI b.id.g, nI b.mask, nI b.x, nI b.y, nI b.vx, nI b.vy, nI b.hp, nI b.pw, nI b.lf, nI m] 45)) (refA R T :: cellsA wx.heap.size [nI 4, nI b.id.s, nI b.id.i, nI b.id.g, nI b.mask, nI b.x, nI b.y, nI b.vx, nI b.vy, nI b.hp, nI b.pw, nI b.lf, nI m] :: l) := (h.newCells [nI 4, nI b.id.s, nI b.id.i, nI b.id.g, nI b.mask, nI b.x, nI b.y, nI b.vx, nI b.vy, nI b.hp, nI b.pw, nI b.lf, nI m] 45).rot1
  clear h
  generalize hX : wx.heap.size = X at *
  generalize hwy : wx.alloc (.cells #[nI 4, nI b.id.s, nI b.id.i, nI b.id.g, nI b.mask, nI b.x, nI b.y, nI b.vx, nI b.vy, nI b.hp, nI b.pw, nI b.lf, nI m] 45) = wy at *
  obtain ⟨hInp, p0, p1, p2, p3, p4, p5, p6, p7, p8, p9, p10, p11, p12⟩ := ddAt (d := ⟨4, b, m⟩) 1 O1 rfl
  dsimp only at p0 p1 p2 p3 p4 p5 p6 p7 p8 p9 p10 p11 p12
  have kG := fun wz (p : wy.Plus wz) => refGetS (Own.atP O1 wz p) hg b.id (by omega)
  obtain ⟨ob, hob⟩ : ∃ ob, ob = getS T b.id := ⟨_, rfl⟩
  obtain ⟨th, hth⟩ : ∃ th, th = (findT T b.id).isSome := ⟨_, rfl⟩
  have hmask : 0 ≤ ob.mask ∧ ob.mask ≤ 31 := by rw [hob]; exact get_mask hg hn
  rw [hn] at hth
  subst hth
  have hth := Eq.symm hn
  clear hn
  obtain ⟨nb, hnb⟩ : ∃ nb, nb = withoutB ob m := ⟨_, rfl⟩
  obtain ⟨z1, hz1⟩ : ∃ z, z = (writeS T nb).2 := ⟨_, rfl⟩
  obtain ⟨T1, hT1⟩ : ∃ z, z = (writeS T nb).1 := ⟨_, rfl⟩
  rw [← hob, ← hnb, ← hz1, ← hT1]
  replace hz1 := Lib.hid hz1
  replace hT1 := Lib.hid hT1
  replace hnb := Lib.hid hnb
  rw [← hob, ← hth] at kG
  replace kG := Lib.hid kG
  replace hob := Lib.hid hob
  replace hth := Lib.hid hth
  replace O1 := Lib.hid O1
  go_enter Try.func21, Try.ntmps21
  go_upto_region 6 with (go_at_call 37; (with_reducible refine (kG.out _ (by (repeat (first | exact Plus.refl _ | apply Plus.plus | apply Plus.alloc | apply Plus.drew)))).mono ?_); rintro e w' ⟨rfl, e1, rfl⟩)
  have O2 : Own W ((wy.plus e1).alloc (.cells #[nI ob.id.s, nI ob.id.i, nI ob.id.g, nI ob.mask, nI ob.x, nI ob.y, nI ob.vx, nI ob.vy, nI ob.hp, nI ob.pw, nI ob.lf] 40)) (refA R T :: cellsA (wy.heap.size + e1.objs.size) [nI ob.id.s, nI ob.id.i, nI ob.id.g, nI ob.mask, nI ob.x, nI ob.y, nI ob.vx, nI ob.vy, nI ob.hp, nI ob.pw, nI ob.lf] :: cellsA X [nI 4, nI b.id.s, nI b.id.i, nI b.id.g, nI b.mask, nI b.x, nI b.y, nI b.vx, nI b.vy, nI b.hp, nI b.pw, nI b.lf, nI m] :: l) := by
    have := ((O1.out.plus e1).newCells [nI ob.id.s, nI ob.id.i, nI ob.id.g, nI ob.mask, nI ob.x, nI ob.y, nI ob.vx, nI ob.vy, nI ob.hp, nI ob.pw, nI ob.lf] 40).rot1
    rw [World.size_plus_eq] at this
    exact this
  generalize wy.heap.size + e1.objs.size = Y at *
  obtain ⟨w3, hw3⟩ : ∃ w3, (wy.plus e1).alloc (.cells #[nI ob.id.s, nI ob.id.i, nI ob.id.g, nI ob.mask, nI ob.x, nI ob.y, nI ob.vx, nI ob.vy, nI ob.hp, nI ob.pw, nI ob.lf] 40) = w3 := ⟨_, rfl⟩
  rw [hw3] at O2 ⊢
  clear hw3 hwy hX kG O1 hInp p0 p1 p2 p3 p4 p5 p6 p7 p8 p9 p10 p11 p12
  obtain ⟨hInp, p0, p1, p2, p3, p4, p5, p6, p7, p8, p9, p10, p11, p12⟩ := ddAt (d := ⟨4, b, m⟩) 2 O2 rfl
  dsimp only at p0 p1 p2 p3 p4 p5 p6 p7 p8 p9 p10 p11 p12
  obtain ⟨hInq, q0, q1, q2, q3, q4, q5, q6, q7, q8, q9, q10⟩ := boxAt (b := ob) 1 O2 rfl
  have kV := fun w' => refWithout_any ob m w' hmask hm
  rw [← hnb.out] at kV
  have kP := fun wz (p : w3.Plus wz) => refWriteS (Own.atP O2 wz p) hg nb (by omega)
  rw [← hz1.out, ← hT1.out] at kP
  clear hz1 hT1 hnb
  replace kV := Lib.hid kV
  replace kP := Lib.hid kP
  replace O2 := Lib.hid O2
  go_wp2_with (first
    | (go_at_call 25; (with_reducible refine (kV.out _).mono ?_); rintro e w' ⟨rfl, e2, rfl⟩)
    | (go_at_call 39; (with_reducible refine (kP.out _ (by (repeat (first | exact Plus.refl _ | apply Plus.plus | apply Plus.alloc | apply Plus.drew)))).mono ?_); rintro e w4 ⟨rfl, O3⟩))
  go_ret
  exact ⟨rfl, ((O3.pull 1 rfl).drop.pull 1 rfl).drop⟩
/-- the numbers of a deed are int64's -/
def DdW (d : DdR) : Prop := IdW d.b.id ∧ (-9223372036854775808 ≤ d.b.mask ∧ d.b.mask ≤ 9223372036854775807) ∧ -9223372036854775808 ≤ d.mask ∧ d.mask ≤ 9223372036854775807
theorem refDo_O {W wx : World} {R : Nat} {T : Tabs} {l : List Asn} (h : Own W wx (refA R T :: l)) (hg : GoodT T) (d : DdR) (hd : DdW d) (ht : total T ≤ 80000) :
    Calls Try.prog 21 #[chP R, d.v] wx (OwnTo W (nI (doT T d).2) (refA R (doT T d).1 :: l)) := by
  obtain ⟨k, b, m⟩ := d
  unfold doT
  simp only
  by_cases h1 : k < 1
  · rw [if_pos (.inl h1)]; exact refDo_low h hg k b m ht h1
  by_cases h4 : 4 < k
  · rw [if_pos (.inr h4)]; exact refDo_high h hg k b m ht h4
  rw [if_neg (by omega)]
  by_cases e1 : k = 1
  · subst e1; rw [if_pos rfl]; exact refDo_put h hg b m ht
  rw [if_neg e1]
  by_cases hf : (findT T b.id).isSome = true
  · rw [if_pos hf]
    by_cases e2 : k = 2
    · subst e2; rw [if_pos rfl]; exact refDo_remove h hg b m ht hf
    rw [if_neg e2]
    by_cases e3 : k = 3
    · subst e3; rw [if_pos rfl]; exact refDo_set h hg b m ht hd.2.1 hf
    rw [if_neg e3]
    obtain rfl : k = 4 := by omega
    exact refDo_drop h hg b m ht hd.2.2 hf
  · rw [if_neg hf]; exact refDo_none h hg k b m ht (by omega) (by omega) (by simpa using hf)
end Go.Proofs.Ytkdagljoiacaaaa
