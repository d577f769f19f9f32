/- buffer: Do: walk. -/
import Derived.Test.YtkdagljoiacaaaaBuf2r
import Derived.Test.YtkdagljoiacaaaaAr10
import Derived.Test.YtkdagljoiacaaaaArRc
set_option linter.unusedSimpArgs false
set_option linter.unusedVariables false
namespace Go.Proofs.Ytkdagljoiacaaaa
open Go.RowKit
structure DdAt (w : World) (X : Nat) (d : DdR) : Prop where
  inw : InW X w
  p0 : w.cell? ⟨X, 0, none⟩ = some (nI d.kind)
  p1 : w.cell? ⟨X, 1, none⟩ = some (nI d.b.id.s)
  p2 : w.cell? ⟨X, 2, none⟩ = some (nI d.b.id.i)
  p3 : w.cell? ⟨X, 3, none⟩ = some (nI d.b.id.g)
  p4 : w.cell? ⟨X, 4, none⟩ = some (nI d.b.mask)
  p5 : w.cell? ⟨X, 5, none⟩ = some (nI d.b.x)
  p6 : w.cell? ⟨X, 6, none⟩ = some (nI d.b.y)
  p7 : w.cell? ⟨X, 7, none⟩ = some (nI d.b.vx)
  p8 : w.cell? ⟨X, 8, none⟩ = some (nI d.b.vy)
  p9 : w.cell? ⟨X, 9, none⟩ = some (nI d.b.hp)
  p10 : w.cell? ⟨X, 10, none⟩ = some (nI d.b.pw)
  p11 : w.cell? ⟨X, 11, none⟩ = some (nI d.b.lf)
  p12 : w.cell? ⟨X, 12, none⟩ = some (nI d.mask)
theorem ddAt {W wz : World} {l : List Asn} {X : Nat} {d : DdR} (i : Nat) (O : Own W wz l) (hi : l[i]? = some (cellsA X d.cs)) : DdAt wz X d := by
  obtain ⟨lB, q, _⟩ := O.cells i hi
  exact ⟨⟨lB⟩, q 0 (by simp), q 1 (by simp), q 2 (by simp), q 3 (by simp), q 4 (by simp), q 5 (by simp), q 6 (by simp), q 7 (by simp), q 8 (by simp), q 9 (by simp), q 10 (by simp), q 11 (by simp), q 12 (by simp)⟩
theorem get_mask {T : Tabs} (hg : GoodT T) {a : IdR} (h : (findT T a).isSome = true) : 0 ≤ (getS T a).mask ∧ (getS T a).mask ≤ 31 := by
  obtain ⟨⟨m, i⟩, hf⟩ := Option.isSome_iff_exists.1 h
  obtain ⟨hm, hi, _⟩ := find_get hf
  have := (hg.ok m hm _ (List.mem_of_getElem? hi)).2
  omega
set_option maxRecDepth 100000 in
set_option maxHeartbeats 4000000 in
theorem do_low {W wx : World} {S : Nat} {T : Tabs} {l : List Asn} (h : Own W wx (storeA S T :: l)) (hg : GoodT T) (k : Int) (b : BdR) (m : Int) (hid : IdW b.id) (ht : total T ≤ 80000) (hk : k < 1) :
    Calls Try.prog 17 #[chP S, DdR.v ⟨k, b, m⟩] wx (OwnTo W (nI 1) (storeA S T :: l)) := by
  have O1 : Own W (wx.alloc (.cells #[nI k, nI b.id.s, nI b.id.i, nI b.id.g, nI b.mask, nI b.x, nI b.y, nI b.vx, nI b.vy, nI b.hp, nI b.pw, nI b.lf, nI m] 45)) (storeA S T :: cellsA wx.heap.size [nI k, nI b.id.s, nI b.id.i, nI b.id.g, nI b.mask, nI b.x, nI b.y, nI b.vx, nI b.vy, nI b.hp, nI b.pw, nI b.lf, nI m] :: l) := (h.newCells [nI k, nI b.id.s, nI b.id.i, nI b.id.g, nI b.mask, nI b.x, nI b.y, nI b.vx, nI b.vy, nI b.hp, nI b.pw, nI b.lf, nI m] 45).rot1
  clear h
  generalize hX : wx.heap.size = X at *
  generalize hwy : wx.alloc (.cells #[nI k, nI b.id.s, nI b.id.i, nI b.id.g, nI b.mask, nI b.x, nI b.y, nI b.vx, nI b.vy, nI b.hp, nI b.pw, nI b.lf, nI m] 45) = wy at *
  obtain ⟨hInp, p0, p1, p2, p3, p4, p5, p6, p7, p8, p9, p10, p11, p12⟩ := ddAt (d := ⟨k, b, m⟩) 1 O1 rfl
  dsimp only at p0 p1 p2 p3 p4 p5 p6 p7 p8 p9 p10 p11 p12
  have kG := fun wz (p : wy.Plus wz) => get_store (Own.atP O1 wz p) hg b.id hid (by omega)
  obtain ⟨ob, hob⟩ : ∃ ob, ob = getS T b.id := ⟨_, rfl⟩
  obtain ⟨th, hth⟩ : ∃ th, th = (findT T b.id).isSome := ⟨_, rfl⟩
  rw [← hob, ← hth] at kG
  replace kG := Lib.hid kG
  replace hob := Lib.hid hob
  replace hth := Lib.hid hth
  replace O1 := Lib.hid O1
  go_enter Try.func17, Try.ntmps17
  go_upto_region 2 with (go_at_call 23; (with_reducible refine (kG.out _ (by (repeat (first | exact Plus.refl _ | apply Plus.plus | apply Plus.alloc | apply Plus.drew)))).mono ?_); rintro e w' ⟨rfl, e1, rfl⟩)
  have O2 : Own W ((wy.plus e1).alloc (.cells #[nI ob.id.s, nI ob.id.i, nI ob.id.g, nI ob.mask, nI ob.x, nI ob.y, nI ob.vx, nI ob.vy, nI ob.hp, nI ob.pw, nI ob.lf] 40)) (storeA S T :: cellsA (wy.heap.size + e1.objs.size) [nI ob.id.s, nI ob.id.i, nI ob.id.g, nI ob.mask, nI ob.x, nI ob.y, nI ob.vx, nI ob.vy, nI ob.hp, nI ob.pw, nI ob.lf] :: cellsA X [nI k, nI b.id.s, nI b.id.i, nI b.id.g, nI b.mask, nI b.x, nI b.y, nI b.vx, nI b.vy, nI b.hp, nI b.pw, nI b.lf, nI m] :: l) := by
    have := ((O1.out.plus e1).newCells [nI ob.id.s, nI ob.id.i, nI ob.id.g, nI ob.mask, nI ob.x, nI ob.y, nI ob.vx, nI ob.vy, nI ob.hp, nI ob.pw, nI ob.lf] 40).rot1
    rw [World.size_plus_eq] at this
    exact this
  generalize wy.heap.size + e1.objs.size = Y at *
  obtain ⟨w3, hw3⟩ : ∃ w3, (wy.plus e1).alloc (.cells #[nI ob.id.s, nI ob.id.i, nI ob.id.g, nI ob.mask, nI ob.x, nI ob.y, nI ob.vx, nI ob.vy, nI ob.hp, nI ob.pw, nI ob.lf] 40) = w3 := ⟨_, rfl⟩
  rw [hw3] at O2 ⊢
  clear hw3 hwy hX kG O1 hInp p0 p1 p2 p3 p4 p5 p6 p7 p8 p9 p10 p11 p12
  obtain ⟨hInp, p0, p1, p2, p3, p4, p5, p6, p7, p8, p9, p10, p11, p12⟩ := ddAt (d := ⟨k, b, m⟩) 2 O2 rfl
  dsimp only at p0 p1 p2 p3 p4 p5 p6 p7 p8 p9 p10 p11 p12
  obtain ⟨hInq, q0, q1, q2, q3, q4, q5, q6, q7, q8, q9, q10⟩ := boxAt (b := ob) 1 O2 rfl
  replace O2 := Lib.hid O2
  go_wp2_with fail
  go_ret
  exact ⟨rfl, ((O2.out.pull 1 rfl).drop.pull 1 rfl).drop⟩
set_option maxRecDepth 100000 in
set_option maxHeartbeats 4000000 in
theorem do_high {W wx : World} {S : Nat} {T : Tabs} {l : List Asn} (h : Own W wx (storeA S T :: l)) (hg : GoodT T) (k : Int) (b : BdR) (m : Int) (hid : IdW b.id) (ht : total T ≤ 80000) (hk : 4 < k) :
    Calls Try.prog 17 #[chP S, DdR.v ⟨k, b, m⟩] wx (OwnTo W (nI 1) (storeA S T :: l)) := by
  have O1 : Own W (wx.alloc (.cells #[nI k, nI b.id.s, nI b.id.i, nI b.id.g, nI b.mask, nI b.x, nI b.y, nI b.vx, nI b.vy, nI b.hp, nI b.pw, nI b.lf, nI m] 45)) (storeA S T :: cellsA wx.heap.size [nI k, nI b.id.s, nI b.id.i, nI b.id.g, nI b.mask, nI b.x, nI b.y, nI b.vx, nI b.vy, nI b.hp, nI b.pw, nI b.lf, nI m] :: l) := (h.newCells [nI k, nI b.id.s, nI b.id.i, nI b.id.g, nI b.mask, nI b.x, nI b.y, nI b.vx, nI b.vy, nI b.hp, nI b.pw, nI b.lf, nI m] 45).rot1
  clear h
  generalize hX : wx.heap.size = X at *
  generalize hwy : wx.alloc (.cells #[nI k, nI b.id.s, nI b.id.i, nI b.id.g, nI b.mask, nI b.x, nI b.y, nI b.vx, nI b.vy, nI b.hp, nI b.pw, nI b.lf, nI m] 45) = wy at *
  obtain ⟨hInp, p0, p1, p2, p3, p4, p5, p6, p7, p8, p9, p10, p11, p12⟩ := ddAt (d := ⟨k, b, m⟩) 1 O1 rfl
  dsimp only at p0 p1 p2 p3 p4 p5 p6 p7 p8 p9 p10 p11 p12
  have kG := fun wz (p : wy.Plus wz) => get_store (Own.atP O1 wz p) hg b.id hid (by omega)
  obtain ⟨ob, hob⟩ : ∃ ob, ob = getS T b.id := ⟨_, rfl⟩
  obtain ⟨th, hth⟩ : ∃ th, th = (findT T b.id).isSome := ⟨_, rfl⟩
  have hk1 : ¬ k < 1 := by omega
  rw [← hob, ← hth] at kG
  replace kG := Lib.hid kG
  replace hob := Lib.hid hob
  replace hth := Lib.hid hth
  replace O1 := Lib.hid O1
  go_enter Try.func17, Try.ntmps17
  go_upto_region 2 with (go_at_call 23; (with_reducible refine (kG.out _ (by (repeat (first | exact Plus.refl _ | apply Plus.plus | apply Plus.alloc | apply Plus.drew)))).mono ?_); rintro e w' ⟨rfl, e1, rfl⟩)
  have O2 : Own W ((wy.plus e1).alloc (.cells #[nI ob.id.s, nI ob.id.i, nI ob.id.g, nI ob.mask, nI ob.x, nI ob.y, nI ob.vx, nI ob.vy, nI ob.hp, nI ob.pw, nI ob.lf] 40)) (storeA S T :: cellsA (wy.heap.size + e1.objs.size) [nI ob.id.s, nI ob.id.i, nI ob.id.g, nI ob.mask, nI ob.x, nI ob.y, nI ob.vx, nI ob.vy, nI ob.hp, nI ob.pw, nI ob.lf] :: cellsA X [nI k, nI b.id.s, nI b.id.i, nI b.id.g, nI b.mask, nI b.x, nI b.y, nI b.vx, nI b.vy, nI b.hp, nI b.pw, nI b.lf, nI m] :: l) := by
    have := ((O1.out.plus e1).newCells [nI ob.id.s, nI ob.id.i, nI ob.id.g, nI ob.mask, nI ob.x, nI ob.y, nI ob.vx, nI ob.vy, nI ob.hp, nI ob.pw, nI ob.lf] 40).rot1
    rw [World.size_plus_eq] at this
    exact this
  generalize wy.heap.size + e1.objs.size = Y at *
  obtain ⟨w3, hw3⟩ : ∃ w3, (wy.plus e1).alloc (.cells #[nI ob.id.s, nI ob.id.i, nI ob.id.g, nI ob.mask, nI ob.x, nI ob.y, nI ob.vx, nI ob.vy, nI ob.hp, nI ob.pw, nI ob.lf] 40) = w3 := ⟨_, rfl⟩
  rw [hw3] at O2 ⊢
  clear hw3 hwy hX kG O1 hInp p0 p1 p2 p3 p4 p5 p6 p7 p8 p9 p10 p11 p12
  obtain ⟨hInp, p0, p1, p2, p3, p4, p5, p6, p7, p8, p9, p10, p11, p12⟩ := ddAt (d := ⟨k, b, m⟩) 2 O2 rfl
  dsimp only at p0 p1 p2 p3 p4 p5 p6 p7 p8 p9 p10 p11 p12
  obtain ⟨hInq, q0, q1, q2, q3, q4, q5, q6, q7, q8, q9, q10⟩ := boxAt (b := ob) 1 O2 rfl
  replace O2 := Lib.hid O2
  go_wp2_with fail
  go_ret
  exact ⟨rfl, ((O2.out.pull 1 rfl).drop.pull 1 rfl).drop⟩
set_option maxRecDepth 100000 in
set_option maxHeartbeats 4000000 in
theorem do_none {W wx : World} {S : Nat} {T : Tabs} {l : List Asn} (h : Own W wx (storeA S T :: l)) (hg : GoodT T) (k : Int) (b : BdR) (m : Int) (hid : IdW b.id) (ht : total T ≤ 80000) (hk : 1 < k) (hk4 : k ≤ 4) (hn : (findT T b.id).isSome = false) :
    Calls Try.prog 17 #[chP S, DdR.v ⟨k, b, m⟩] wx (OwnTo W (nI 6) (storeA S T :: l)) := by
  have O1 : Own W (wx.alloc (.cells #[nI k, nI b.id.s, nI b.id.i, nI b.id.g, nI b.mask, nI b.x, nI b.y, nI b.vx, nI b.vy, nI b.hp, nI b.pw, nI b.lf, nI m] 45)) (storeA S T :: cellsA wx.heap.size [nI k, nI b.id.s, nI b.id.i, nI b.id.g, nI b.mask, nI b.x, nI b.y, nI b.vx, nI b.vy, nI b.hp, nI b.pw, nI b.lf, nI m] :: l) := (h.newCells [nI k, nI b.id.s, nI b.id.i, nI b.id.g, nI b.mask, nI b.x, nI b.y, nI b.vx, nI b.vy, nI b.hp, nI b.pw, nI b.lf, nI m] 45).rot1
  clear h
  generalize hX : wx.heap.size = X at *
  generalize hwy : wx.alloc (.cells #[nI k, nI b.id.s, nI b.id.i, nI b.id.g, nI b.mask, nI b.x, nI b.y, nI b.vx, nI b.vy, nI b.hp, nI b.pw, nI b.lf, nI m] 45) = wy at *
  obtain ⟨hInp, p0, p1, p2, p3, p4, p5, p6, p7, p8, p9, p10, p11, p12⟩ := ddAt (d := ⟨k, b, m⟩) 1 O1 rfl
  dsimp only at p0 p1 p2 p3 p4 p5 p6 p7 p8 p9 p10 p11 p12
  have kG := fun wz (p : wy.Plus wz) => get_store (Own.atP O1 wz p) hg b.id hid (by omega)
  obtain ⟨ob, hob⟩ : ∃ ob, ob = getS T b.id := ⟨_, rfl⟩
  obtain ⟨th, hth⟩ : ∃ th, th = (findT T b.id).isSome := ⟨_, rfl⟩
  have hk1 : ¬ k < 1 := by omega
  have hd1 : decide (k < 1) = false := by simp; omega
  have hd4 : decide (4 < k) = false := by simp; omega
  have he1 : (k == 1) = false := by simp; omega
  clear hk4
  rw [hn] at hth
  subst hth
  have hth := Eq.symm hn
  clear hn
  rw [← hob, ← hth] at kG
  replace kG := Lib.hid kG
  replace hob := Lib.hid hob
  replace hth := Lib.hid hth
  replace O1 := Lib.hid O1
  go_enter Try.func17, Try.ntmps17
  go_upto_region 2 with (go_at_call 23; (with_reducible refine (kG.out _ (by (repeat (first | exact Plus.refl _ | apply Plus.plus | apply Plus.alloc | apply Plus.drew)))).mono ?_); rintro e w' ⟨rfl, e1, rfl⟩)
  have O2 : Own W ((wy.plus e1).alloc (.cells #[nI ob.id.s, nI ob.id.i, nI ob.id.g, nI ob.mask, nI ob.x, nI ob.y, nI ob.vx, nI ob.vy, nI ob.hp, nI ob.pw, nI ob.lf] 40)) (storeA S T :: cellsA (wy.heap.size + e1.objs.size) [nI ob.id.s, nI ob.id.i, nI ob.id.g, nI ob.mask, nI ob.x, nI ob.y, nI ob.vx, nI ob.vy, nI ob.hp, nI ob.pw, nI ob.lf] :: cellsA X [nI k, nI b.id.s, nI b.id.i, nI b.id.g, nI b.mask, nI b.x, nI b.y, nI b.vx, nI b.vy, nI b.hp, nI b.pw, nI b.lf, nI m] :: l) := by
    have := ((O1.out.plus e1).newCells [nI ob.id.s, nI ob.id.i, nI ob.id.g, nI ob.mask, nI ob.x, nI ob.y, nI ob.vx, nI ob.vy, nI ob.hp, nI ob.pw, nI ob.lf] 40).rot1
    rw [World.size_plus_eq] at this
    exact this
  generalize wy.heap.size + e1.objs.size = Y at *
  obtain ⟨w3, hw3⟩ : ∃ w3, (wy.plus e1).alloc (.cells #[nI ob.id.s, nI ob.id.i, nI ob.id.g, nI ob.mask, nI ob.x, nI ob.y, nI ob.vx, nI ob.vy, nI ob.hp, nI ob.pw, nI ob.lf] 40) = w3 := ⟨_, rfl⟩
  rw [hw3] at O2 ⊢
  clear hw3 hwy hX kG O1 hInp p0 p1 p2 p3 p4 p5 p6 p7 p8 p9 p10 p11 p12
  obtain ⟨hInp, p0, p1, p2, p3, p4, p5, p6, p7, p8, p9, p10, p11, p12⟩ := ddAt (d := ⟨k, b, m⟩) 2 O2 rfl
  dsimp only at p0 p1 p2 p3 p4 p5 p6 p7 p8 p9 p10 p11 p12
  obtain ⟨hInq, q0, q1, q2, q3, q4, q5, q6, q7, q8, q9, q10⟩ := boxAt (b := ob) 1 O2 rfl
  replace O2 := Lib.hid O2
  go_wp2_with fail
  go_ret
  exact ⟨rfl, ((O2.out.pull 1 rfl).drop.pull 1 rfl).drop⟩
set_option maxRecDepth 100000 in
set_option maxHeartbeats 4000000 in
theorem do_put {W wx : World} {S : Nat} {T : Tabs} {l : List Asn} (h : Own W wx (storeA S T :: l)) (hg : GoodT T) (b : BdR) (m : Int) (hid : IdW b.id) (ht : total T ≤ 80000) :
    Calls Try.prog 17 #[chP S, DdR.v ⟨1, b, m⟩] wx (OwnTo W (nI (putS T b).2) (storeA S (putS T b).1 :: l)) := by
  have O1 : Own W (wx.alloc (.cells #[nI 1, nI b.id.s, nI b.id.i, nI b.id.g, nI b.mask, nI b.x, nI b.y, nI b.vx, nI b.vy, nI b.hp, nI b.pw, nI b.lf, nI m] 45)) (storeA S T :: cellsA wx.heap.size [nI 1, nI b.id.s, nI b.id.i, nI b.id.g, nI b.mask, nI b.x, nI b.y, nI b.vx, nI b.vy, nI b.hp, nI b.pw, nI b.lf, nI m] :: l) := (h.newCells [nI 1, nI b.id.s, nI b.id.i, nI b.id.g, nI b.mask, nI b.x, nI b.y, nI b.vx, nI b.vy, nI b.hp, nI b.pw, nI b.lf, nI m] 45).rot1
  clear h
  generalize hX : wx.heap.size = X at *
  generalize hwy : wx.alloc (.cells #[nI 1, nI b.id.s, nI b.id.i, nI b.id.g, nI b.mask, nI b.x, nI b.y, nI b.vx, nI b.vy, nI b.hp, nI b.pw, nI b.lf, nI m] 45) = wy at *
  obtain ⟨hInp, p0, p1, p2, p3, p4, p5, p6, p7, p8, p9, p10, p11, p12⟩ := ddAt (d := ⟨1, b, m⟩) 1 O1 rfl
  dsimp only at p0 p1 p2 p3 p4 p5 p6 p7 p8 p9 p10 p11 p12
  have kG := fun wz (p : wy.Plus wz) => get_store (Own.atP O1 wz p) hg b.id hid (by omega)
  obtain ⟨ob, hob⟩ : ∃ ob, ob = getS T b.id := ⟨_, rfl⟩
  obtain ⟨th, hth⟩ : ∃ th, th = (findT T b.id).isSome := ⟨_, rfl⟩
  rw [← hob, ← hth] at kG
  replace kG := Lib.hid kG
  replace hob := Lib.hid hob
  replace hth := Lib.hid hth
  replace O1 := Lib.hid O1
  go_enter Try.func17, Try.ntmps17
  go_upto_region 2 with (go_at_call 23; (with_reducible refine (kG.out _ (by (repeat (first | exact Plus.refl _ | apply Plus.plus | apply Plus.alloc | apply Plus.drew)))).mono ?_); rintro e w' ⟨rfl, e1, rfl⟩)
  have O2 : Own W ((wy.plus e1).alloc (.cells #[nI ob.id.s, nI ob.id.i, nI ob.id.g, nI ob.mask, nI ob.x, nI ob.y, nI ob.vx, nI ob.vy, nI ob.hp, nI ob.pw, nI ob.lf] 40)) (storeA S T :: cellsA (wy.heap.size + e1.objs.size) [nI ob.id.s, nI ob.id.i, nI ob.id.g, nI ob.mask, nI ob.x, nI ob.y, nI ob.vx, nI ob.vy, nI ob.hp, nI ob.pw, nI ob.lf] :: cellsA X [nI 1, nI b.id.s, nI b.id.i, nI b.id.g, nI b.mask, nI b.x, nI b.y, nI b.vx, nI b.vy, nI b.hp, nI b.pw, nI b.lf, nI m] :: l) := by
    have := ((O1.out.plus e1).newCells [nI ob.id.s, nI ob.id.i, nI ob.id.g, nI ob.mask, nI ob.x, nI ob.y, nI ob.vx, nI ob.vy, nI ob.hp, nI ob.pw, nI ob.lf] 40).rot1
    rw [World.size_plus_eq] at this
    exact this
  generalize wy.heap.size + e1.objs.size = Y at *
  obtain ⟨w3, hw3⟩ : ∃ w3, (wy.plus e1).alloc (.cells #[nI ob.id.s, nI ob.id.i, nI ob.id.g, nI ob.mask, nI ob.x, nI ob.y, nI ob.vx, nI ob.vy, nI ob.hp, nI ob.pw, nI ob.lf] 40) = w3 := ⟨_, rfl⟩
  rw [hw3] at O2 ⊢
  clear hw3 hwy hX kG O1 hInp p0 p1 p2 p3 p4 p5 p6 p7 p8 p9 p10 p11 p12
  obtain ⟨hInp, p0, p1, p2, p3, p4, p5, p6, p7, p8, p9, p10, p11, p12⟩ := ddAt (d := ⟨1, b, m⟩) 2 O2 rfl
  dsimp only at p0 p1 p2 p3 p4 p5 p6 p7 p8 p9 p10 p11 p12
  obtain ⟨hInq, q0, q1, q2, q3, q4, q5, q6, q7, q8, q9, q10⟩ := boxAt (b := ob) 1 O2 rfl
  have kP := put_O O2 hg b (by omega)
  generalize (putS T b).2 = z1 at *
  generalize (putS T b).1 = T1 at *
  replace kP := Lib.hid kP
  replace O2 := Lib.hid O2
  go_wp2_with (go_at_call 30; (with_reducible refine kP.out.mono ?_); rintro e w4 ⟨rfl, O3⟩)
  go_ret
  exact ⟨rfl, ((O3.pull 1 rfl).drop.pull 1 rfl).drop⟩
set_option maxRecDepth 100000 in
set_option maxHeartbeats 4000000 in
theorem do_remove {W wx : World} {S : Nat} {T : Tabs} {l : List Asn} (h : Own W wx (storeA S T :: l)) (hg : GoodT T) (b : BdR) (m : Int) (hid : IdW b.id) (ht : total T ≤ 80000) (hn : (findT T b.id).isSome = true) :
    Calls Try.prog 17 #[chP S, DdR.v ⟨2, b, m⟩] wx (OwnTo W (nI 0) (storeA S (removeS T b.id).1 :: l)) := by
  have O1 : Own W (wx.alloc (.cells #[nI 2, nI b.id.s, nI b.id.i, nI b.id.g, nI b.mask, nI b.x, nI b.y, nI b.vx, nI b.vy, nI b.hp, nI b.pw, nI b.lf, nI m] 45)) (storeA S T :: cellsA wx.heap.size [nI 2, nI b.id.s, nI b.id.i, nI b.id.g, nI b.mask, nI b.x, nI b.y, nI b.vx, nI b.vy, nI b.hp, nI b.pw, nI b.lf, nI m] :: l) := (h.newCells [nI 2, nI b.id.s, nI b.id.i, nI b.id.g, nI b.mask, nI b.x, nI b.y, nI b.vx, nI b.vy, nI b.hp, nI b.pw, nI b.lf, nI m] 45).rot1
  clear h
  generalize hX : wx.heap.size = X at *
  generalize hwy : wx.alloc (.cells #[nI 2, nI b.id.s, nI b.id.i, nI b.id.g, nI b.mask, nI b.x, nI b.y, nI b.vx, nI b.vy, nI b.hp, nI b.pw, nI b.lf, nI m] 45) = wy at *
  obtain ⟨hInp, p0, p1, p2, p3, p4, p5, p6, p7, p8, p9, p10, p11, p12⟩ := ddAt (d := ⟨2, b, m⟩) 1 O1 rfl
  dsimp only at p0 p1 p2 p3 p4 p5 p6 p7 p8 p9 p10 p11 p12
  have kG := fun wz (p : wy.Plus wz) => get_store (Own.atP O1 wz p) hg b.id hid (by omega)
  obtain ⟨ob, hob⟩ : ∃ ob, ob = getS T b.id := ⟨_, rfl⟩
  obtain ⟨th, hth⟩ : ∃ th, th = (findT T b.id).isSome := ⟨_, rfl⟩
  rw [hn] at hth
  subst hth
  have hth := Eq.symm hn
  clear hn
  rw [← hob, ← hth] at kG
  replace kG := Lib.hid kG
  replace hob := Lib.hid hob
  replace hth := Lib.hid hth
  replace O1 := Lib.hid O1
  go_enter Try.func17, Try.ntmps17
  go_upto_region 2 with (go_at_call 23; (with_reducible refine (kG.out _ (by (repeat (first | exact Plus.refl _ | apply Plus.plus | apply Plus.alloc | apply Plus.drew)))).mono ?_); rintro e w' ⟨rfl, e1, rfl⟩)
  have O2 : Own W ((wy.plus e1).alloc (.cells #[nI ob.id.s, nI ob.id.i, nI ob.id.g, nI ob.mask, nI ob.x, nI ob.y, nI ob.vx, nI ob.vy, nI ob.hp, nI ob.pw, nI ob.lf] 40)) (storeA S T :: cellsA (wy.heap.size + e1.objs.size) [nI ob.id.s, nI ob.id.i, nI ob.id.g, nI ob.mask, nI ob.x, nI ob.y, nI ob.vx, nI ob.vy, nI ob.hp, nI ob.pw, nI ob.lf] :: cellsA X [nI 2, nI b.id.s, nI b.id.i, nI b.id.g, nI b.mask, nI b.x, nI b.y, nI b.vx, nI b.vy, nI b.hp, nI b.pw, nI b.lf, nI m] :: l) := by
    have := ((O1.out.plus e1).newCells [nI ob.id.s, nI ob.id.i, nI ob.id.g, nI ob.mask, nI ob.x, nI ob.y, nI ob.vx, nI ob.vy, nI ob.hp, nI ob.pw, nI ob.lf] 40).rot1
    rw [World.size_plus_eq] at this
    exact this
  generalize wy.heap.size + e1.objs.size = Y at *
  obtain ⟨w3, hw3⟩ : ∃ w3, (wy.plus e1).alloc (.cells #[nI ob.id.s, nI ob.id.i, nI ob.id.g, nI ob.mask, nI ob.x, nI ob.y, nI ob.vx, nI ob.vy, nI ob.hp, nI ob.pw, nI ob.lf] 40) = w3 := ⟨_, rfl⟩
  rw [hw3] at O2 ⊢
  clear hw3 hwy hX kG O1 hInp p0 p1 p2 p3 p4 p5 p6 p7 p8 p9 p10 p11 p12
  obtain ⟨hInp, p0, p1, p2, p3, p4, p5, p6, p7, p8, p9, p10, p11, p12⟩ := ddAt (d := ⟨2, b, m⟩) 2 O2 rfl
  dsimp only at p0 p1 p2 p3 p4 p5 p6 p7 p8 p9 p10 p11 p12
  obtain ⟨hInq, q0, q1, q2, q3, q4, q5, q6, q7, q8, q9, q10⟩ := boxAt (b := ob) 1 O2 rfl
  have kP := remove_O O2 hg b.id hid (by omega)
  generalize (removeS T b.id).2 = z1 at *
  generalize (removeS T b.id).1 = T1 at *
  replace kP := Lib.hid kP
  replace O2 := Lib.hid O2
  go_wp2_with (go_at_call 31; (with_reducible refine kP.out.mono ?_); rintro e w4 ⟨rfl, O3⟩)
  go_ret
  exact ⟨rfl, ((O3.pull 1 rfl).drop.pull 1 rfl).drop⟩
set_option maxRecDepth 100000 in
set_option maxHeartbeats 4000000 in
theorem do_set {W wx : World} {S : Nat} {T : Tabs} {l : List Asn} (h : Own W wx (storeA S T :: l)) (hg : GoodT T) (b : BdR) (m : Int) (hid : IdW b.id) (ht : total T ≤ 80000) (hn : (findT T b.id).isSome = true) :
    Calls Try.prog 17 #[chP S, DdR.v ⟨3, b, m⟩] wx (OwnTo W (nI (writeS T (withB (getS T b.id) b)).2) (storeA S (writeS T (withB (getS T b.id) b)).1 :: l)) := by
  have O1 : Own W (wx.alloc (.cells #[nI 3, nI b.id.s, nI b.id.i, nI b.id.g, nI b.mask, nI b.x, nI b.y, nI b.vx, nI b.vy, nI b.hp, nI b.pw, nI b.lf, nI m] 45)) (storeA S T :: cellsA wx.heap.size [nI 3, nI b.id.s, nI b.id.i, nI b.id.g, nI b.mask, nI b.x, nI b.y, nI b.vx, nI b.vy, nI b.hp, nI b.pw, nI b.lf, nI m] :: l) := (h.newCells [nI 3, nI b.id.s, nI b.id.i, nI b.id.g, nI b.mask, nI b.x, nI b.y, nI b.vx, nI b.vy, nI b.hp, nI b.pw, nI b.lf, nI m] 45).rot1
  clear h
  generalize hX : wx.heap.size = X at *
  generalize hwy : wx.alloc (.cells #[nI 3, nI b.id.s, nI b.id.i, nI b.id.g, nI b.mask, nI b.x, nI b.y, nI b.vx, nI b.vy, nI b.hp, nI b.pw, nI b.lf, nI m] 45) = wy at *
  obtain ⟨hInp, p0, p1, p2, p3, p4, p5, p6, p7, p8, p9, p10, p11, p12⟩ := ddAt (d := ⟨3, b, m⟩) 1 O1 rfl
  dsimp only at p0 p1 p2 p3 p4 p5 p6 p7 p8 p9 p10 p11 p12
  have kG := fun wz (p : wy.Plus wz) => get_store (Own.atP O1 wz p) hg b.id hid (by omega)
  obtain ⟨ob, hob⟩ : ∃ ob, ob = getS T b.id := ⟨_, rfl⟩
  obtain ⟨th, hth⟩ : ∃ th, th = (findT T b.id).isSome := ⟨_, rfl⟩
  rw [hn] at hth
  subst hth
  have hth := Eq.symm hn
  clear hn
  obtain ⟨nb, hnb⟩ : ∃ nb, nb = withB ob b := ⟨_, rfl⟩
  obtain ⟨z1, hz1⟩ : ∃ z, z = (writeS T nb).2 := ⟨_, rfl⟩
  obtain ⟨T1, hT1⟩ : ∃ z, z = (writeS T nb).1 := ⟨_, rfl⟩
  rw [← hob, ← hnb, ← hz1, ← hT1]
  replace hz1 := Lib.hid hz1
  replace hT1 := Lib.hid hT1
  replace hnb := Lib.hid hnb
  rw [← hob, ← hth] at kG
  replace kG := Lib.hid kG
  replace hob := Lib.hid hob
  replace hth := Lib.hid hth
  replace O1 := Lib.hid O1
  go_enter Try.func17, Try.ntmps17
  go_upto_region 2 with (go_at_call 23; (with_reducible refine (kG.out _ (by (repeat (first | exact Plus.refl _ | apply Plus.plus | apply Plus.alloc | apply Plus.drew)))).mono ?_); rintro e w' ⟨rfl, e1, rfl⟩)
  have O2 : Own W ((wy.plus e1).alloc (.cells #[nI ob.id.s, nI ob.id.i, nI ob.id.g, nI ob.mask, nI ob.x, nI ob.y, nI ob.vx, nI ob.vy, nI ob.hp, nI ob.pw, nI ob.lf] 40)) (storeA S T :: cellsA (wy.heap.size + e1.objs.size) [nI ob.id.s, nI ob.id.i, nI ob.id.g, nI ob.mask, nI ob.x, nI ob.y, nI ob.vx, nI ob.vy, nI ob.hp, nI ob.pw, nI ob.lf] :: cellsA X [nI 3, nI b.id.s, nI b.id.i, nI b.id.g, nI b.mask, nI b.x, nI b.y, nI b.vx, nI b.vy, nI b.hp, nI b.pw, nI b.lf, nI m] :: l) := by
    have := ((O1.out.plus e1).newCells [nI ob.id.s, nI ob.id.i, nI ob.id.g, nI ob.mask, nI ob.x, nI ob.y, nI ob.vx, nI ob.vy, nI ob.hp, nI ob.pw, nI ob.lf] 40).rot1
    rw [World.size_plus_eq] at this
    exact this
  generalize wy.heap.size + e1.objs.size = Y at *
  obtain ⟨w3, hw3⟩ : ∃ w3, (wy.plus e1).alloc (.cells #[nI ob.id.s, nI ob.id.i, nI ob.id.g, nI ob.mask, nI ob.x, nI ob.y, nI ob.vx, nI ob.vy, nI ob.hp, nI ob.pw, nI ob.lf] 40) = w3 := ⟨_, rfl⟩
  rw [hw3] at O2 ⊢
  clear hw3 hwy hX kG O1 hInp p0 p1 p2 p3 p4 p5 p6 p7 p8 p9 p10 p11 p12
  obtain ⟨hInp, p0, p1, p2, p3, p4, p5, p6, p7, p8, p9, p10, p11, p12⟩ := ddAt (d := ⟨3, b, m⟩) 2 O2 rfl
  dsimp only at p0 p1 p2 p3 p4 p5 p6 p7 p8 p9 p10 p11 p12
  obtain ⟨hInq, q0, q1, q2, q3, q4, q5, q6, q7, q8, q9, q10⟩ := boxAt (b := ob) 1 O2 rfl
  have kV := fun w' => with_any ob b w'
  rw [← hnb.out] at kV
  have kP := fun wz (p : w3.Plus wz) => write_O (Own.atP O2 wz p) hg nb (by omega)
  rw [← hz1.out, ← hT1.out] at kP
  clear hz1 hT1 hnb
  replace kV := Lib.hid kV
  replace kP := Lib.hid kP
  replace O2 := Lib.hid O2
  go_wp2_with (first
    | (go_at_call 33; (with_reducible refine (kV.out _).mono ?_); rintro e w' ⟨rfl, e2, rfl⟩)
    | (go_at_call 32; (with_reducible refine (kP.out _ (by (repeat (first | exact Plus.refl _ | apply Plus.plus | apply Plus.alloc | apply Plus.drew)))).mono ?_); rintro e w4 ⟨rfl, O3⟩))
  go_ret
  exact ⟨rfl, ((O3.pull 1 rfl).drop.pull 1 rfl).drop⟩
set_option maxRecDepth 100000 in
set_option maxHeartbeats 4000000 in
theorem do_drop {W wx : World} {S : Nat} {T : Tabs} {l : List Asn} (h : Own W wx (storeA S T :: l)) (hg : GoodT T) (b : BdR) (m : Int) (hid : IdW b.id) (ht : total T ≤ 80000) (hn : (findT T b.id).isSome = true) :
    Calls Try.prog 17 #[chP S, DdR.v ⟨4, b, m⟩] wx (OwnTo W (nI (writeS T (withoutB (getS T b.id) m)).2) (storeA S (writeS T (withoutB (getS T b.id) m)).1 :: l)) := by
  have O1 : Own W (wx.alloc (.cells #[nI 4, nI b.id.s, nI b.id.i, nI b.id.g, nI b.mask, nI b.x, nI b.y, nI b.vx, nI b.vy, nI b.hp, nI b.pw, nI b.lf, nI m] 45)) (storeA S T :: cellsA wx.heap.size [nI 4, nI b.id.s, nI b.id.i, nI b.id.g, nI b.mask, nI b.x, nI b.y, nI b.vx, nI b.vy, nI b.hp, nI b.pw, nI b.lf, nI m] :: l) := (h.newCells [nI 4, nI b.id.s, nI b.id.i, nI b.id.g, nI b.mask, nI b.x, nI b.y, nI b.vx, nI b.vy, nI b.hp, nI b.pw, nI b.lf, nI m] 45).rot1
  clear h
  generalize hX : wx.heap.size = X at *
  generalize hwy : wx.alloc (.cells #[nI 4, nI b.id.s, nI b.id.i, nI b.id.g, nI b.mask, nI b.x, nI b.y, nI b.vx, nI b.vy, nI b.hp, nI b.pw, nI b.lf, nI m] 45) = wy at *
  obtain ⟨hInp, p0, p1, p2, p3, p4, p5, p6, p7, p8, p9, p10, p11, p12⟩ := ddAt (d := ⟨4, b, m⟩) 1 O1 rfl
  dsimp only at p0 p1 p2 p3 p4 p5 p6 p7 p8 p9 p10 p11 p12
  have kG := fun wz (p : wy.Plus wz) => get_store (Own.atP O1 wz p) hg b.id hid (by omega)
  obtain ⟨ob, hob⟩ : ∃ ob, ob = getS T b.id := ⟨_, rfl⟩
  obtain ⟨th, hth⟩ : ∃ th, th = (findT T b.id).isSome := ⟨_, rfl⟩
  have hmask : 0 ≤ ob.mask ∧ ob.mask ≤ 31 := by rw [hob]; exact get_mask hg hn
  rw [hn] at hth
  subst hth
  have hth := Eq.symm hn
  clear hn
  obtain ⟨nb, hnb⟩ : ∃ nb, nb = withoutB ob m := ⟨_, rfl⟩
  obtain ⟨z1, hz1⟩ : ∃ z, z = (writeS T nb).2 := ⟨_, rfl⟩
  obtain ⟨T1, hT1⟩ : ∃ z, z = (writeS T nb).1 := ⟨_, rfl⟩
  rw [← hob, ← hnb, ← hz1, ← hT1]
  replace hz1 := Lib.hid hz1
  replace hT1 := Lib.hid hT1
  replace hnb := Lib.hid hnb
  rw [← hob, ← hth] at kG
  replace kG := Lib.hid kG
  replace hob := Lib.hid hob
  replace hth := Lib.hid hth
  replace O1 := Lib.hid O1
  go_enter Try.func17, Try.ntmps17
  go_upto_region 2 with (go_at_call 23; (with_reducible refine (kG.out _ (by (repeat (first | exact Plus.refl _ | apply Plus.plus | apply Plus.alloc | apply Plus.drew)))).mono ?_); rintro e w' ⟨rfl, e1, rfl⟩)
  have O2 : Own W ((wy.plus e1).alloc (.cells #[nI ob.id.s, nI ob.id.i, nI ob.id.g, nI ob.mask, nI ob.x, nI ob.y, nI ob.vx, nI ob.vy, nI ob.hp, nI ob.pw, nI ob.lf] 40)) (storeA S T :: cellsA (wy.heap.size + e1.objs.size) [nI ob.id.s, nI ob.id.i, nI ob.id.g, nI ob.mask, nI ob.x, nI ob.y, nI ob.vx, nI ob.vy, nI ob.hp, nI ob.pw, nI ob.lf] :: cellsA X [nI 4, nI b.id.s, nI b.id.i, nI b.id.g, nI b.mask, nI b.x, nI b.y, nI b.vx, nI b.vy, nI b.hp, nI b.pw, nI b.lf, nI m] :: l) := by
    have := ((O1.out.plus e1).newCells [nI ob.id.s, nI ob.id.i, nI ob.id.g, nI ob.mask, nI ob.x, nI ob.y, nI ob.vx, nI ob.vy, nI ob.hp, nI ob.pw, nI ob.lf] 40).rot1
    rw [World.size_plus_eq] at this
    exact this
  generalize wy.heap.size + e1.objs.size = Y at *
  obtain ⟨w3, hw3⟩ : ∃ w3, (wy.plus e1).alloc (.cells #[nI ob.id.s, nI ob.id.i, nI ob.id.g, nI ob.mask, nI ob.x, nI ob.y, nI ob.vx, nI ob.vy, nI ob.hp, nI ob.pw, nI ob.lf] 40) = w3 := ⟨_, rfl⟩
  rw [hw3] at O2 ⊢
  clear hw3 hwy hX kG O1 hInp p0 p1 p2 p3 p4 p5 p6 p7 p8 p9 p10 p11 p12
  obtain ⟨hInp, p0, p1, p2, p3, p4, p5, p6, p7, p8, p9, p10, p11, p12⟩ := ddAt (d := ⟨4, b, m⟩) 2 O2 rfl
  dsimp only at p0 p1 p2 p3 p4 p5 p6 p7 p8 p9 p10 p11 p12
  obtain ⟨hInq, q0, q1, q2, q3, q4, q5, q6, q7, q8, q9, q10⟩ := boxAt (b := ob) 1 O2 rfl
  have kV := fun w' => without_any ob m w' hmask
  rw [← hnb.out] at kV
  have kP := fun wz (p : w3.Plus wz) => write_O (Own.atP O2 wz p) hg nb (by omega)
  rw [← hz1.out, ← hT1.out] at kP
  clear hz1 hT1 hnb
  replace kV := Lib.hid kV
  replace kP := Lib.hid kP
  replace O2 := Lib.hid O2
  go_wp2_with (first
    | (go_at_call 34; (with_reducible refine (kV.out _).mono ?_); rintro e w' ⟨rfl, e2, rfl⟩)
    | (go_at_call 32; (with_reducible refine (kP.out _ (by (repeat (first | exact Plus.refl _ | apply Plus.plus | apply Plus.alloc | apply Plus.drew)))).mono ?_); rintro e w4 ⟨rfl, O3⟩))
  go_ret
  exact ⟨rfl, ((O3.pull 1 rfl).drop.pull 1 rfl).drop⟩
theorem do_O {W wx : World} {S : Nat} {T : Tabs} {l : List Asn} (h : Own W wx (storeA S T :: l)) (hg : GoodT T) (d : DdR) (hid : IdW d.b.id) (ht : total T ≤ 80000) :
    Calls Try.prog 17 #[chP S, d.v] wx (OwnTo W (nI (doT T d).2) (storeA S (doT T d).1 :: l)) := by
  obtain ⟨k, b, m⟩ := d
  unfold doT
  simp only
  by_cases h1 : k < 1
  · rw [if_pos (.inl h1)]; exact do_low h hg k b m hid ht h1
  by_cases h4 : 4 < k
  · rw [if_pos (.inr h4)]; exact do_high h hg k b m hid ht h4
  rw [if_neg (by omega)]
  by_cases e1 : k = 1
  · subst e1; rw [if_pos rfl]; exact do_put h hg b m hid ht
  rw [if_neg e1]
  by_cases hf : (findT T b.id).isSome = true
  · rw [if_pos hf]
    by_cases e2 : k = 2
    · subst e2; rw [if_pos rfl]; exact do_remove h hg b m hid ht hf
    rw [if_neg e2]
    by_cases e3 : k = 3
    · subst e3; rw [if_pos rfl]; exact do_set h hg b m hid ht hf
    rw [if_neg e3]
    obtain rfl : k = 4 := by omega
    exact do_drop h hg b m hid ht hf
  · rw [if_neg hf]; exact do_none h hg k b m hid ht (by omega) (by omega) (by simpa using hf)
end Go.Proofs.Ytkdagljoiacaaaa
