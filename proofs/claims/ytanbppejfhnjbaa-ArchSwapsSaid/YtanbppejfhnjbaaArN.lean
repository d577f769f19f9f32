/- arch: the law's Step: walk. -/
import Derived.Test.YtanbppejfhnjbaaArM
import Derived.Test.YtanbppejfhnjbaaArK
set_option linter.unusedSimpArgs false
set_option linter.unusedVariables false
namespace Go.Proofs.Ytanbppejfhnjbaa
open Go.RowKit
/-- a deed -/
structure DeedR where
  k : Int
  b : BdR
  deriving DecidableEq
abbrev DeedR.cs (x : DeedR) : List Value := [nI x.k, nI x.b.id.s, nI x.b.id.i, nI x.b.id.g, nI x.b.mask, nI x.b.x, nI x.b.y, nI x.b.vx, nI x.b.vy, nI x.b.hp, nI x.b.pw, nI x.b.lf]
abbrev DeedR.v (x : DeedR) : Value := .agg #[nI x.k, nI x.b.id.s, nI x.b.id.i, nI x.b.id.g, nI x.b.mask, nI x.b.x, nI x.b.y, nI x.b.vx, nI x.b.vy, nI x.b.hp, nI x.b.pw, nI x.b.lf]
def stepT (T : Tabs) (x : DeedR) : Tabs := if x.k = 0 ∨ x.k = 1 ∨ x.k = 2 then (putS T x.b).1 else if x.k = 3 ∨ x.k = 4 then (writeS T x.b).1 else if x.k = 5 then (removeS T x.b.id).1 else T
def Tells (T T' : Tabs) (v : Bool) : Prop := T = T' → v = true
set_option maxRecDepth 100000 in
set_option maxHeartbeats 1000000 in
theorem step_put {W wx : World} {S R : Nat} {T T' : Tabs} {l : List Asn} (h : Own W wx (storeA S T :: refA R T' :: l)) (hg : GoodT T) (hg' : GoodT T') (k : Int) (b : BdR) (hk : k = 0 ∨ k = 1 ∨ k = 2) (ht : total T ≤ 80000) (ht' : total T' ≤ 80000) :
    Calls Try.prog 21 #[chP S, chP R, DeedR.v ⟨k, b⟩] wx fun e w' => ∃ v : Bool, Tells T T' v ∧ e = .returned (.bool v) ∧ Own W w' (storeA S (putS T b).1 :: refA R (putS T' b).1 :: l) := by
  have O1 : Own W (wx.alloc (.cells #[nI k, nI b.id.s, nI b.id.i, nI b.id.g, nI b.mask, nI b.x, nI b.y, nI b.vx, nI b.vy, nI b.hp, nI b.pw, nI b.lf] 54)) (storeA S T :: refA R T' :: cellsA wx.heap.size [nI k, nI b.id.s, nI b.id.i, nI b.id.g, nI b.mask, nI b.x, nI b.y, nI b.vx, nI b.vy, nI b.hp, nI b.pw, nI b.lf] :: l) := (h.newCells [nI k, nI b.id.s, nI b.id.i, nI b.id.g, nI b.mask, nI b.x, nI b.y, nI b.vx, nI b.vy, nI b.hp, nI b.pw, nI b.lf] 54).perm (List.perm_middle (l₁ := [_, _])).symm
  clear h
  generalize hX : wx.heap.size = X at *
  generalize hwy : wx.alloc (.cells #[nI k, nI b.id.s, nI b.id.i, nI b.id.g, nI b.mask, nI b.x, nI b.y, nI b.vx, nI b.vy, nI b.hp, nI b.pw, nI b.lf] 54) = wy at *
  obtain ⟨lXp, qXp, _⟩ := O1.cells 2 rfl
  haveI : InW X wy := ⟨lXp⟩
  have p1 := qXp 1 (by simp)
  have p2 := qXp 2 (by simp)
  have p3 := qXp 3 (by simp)
  have p4 := qXp 4 (by simp)
  have p5 := qXp 5 (by simp)
  have p6 := qXp 6 (by simp)
  have p7 := qXp 7 (by simp)
  have p8 := qXp 8 (by simp)
  have p9 := qXp 9 (by simp)
  have p10 := qXp 10 (by simp)
  have p11 := qXp 11 (by simp)
  simp only [List.getElem?_cons_succ, List.getElem?_cons_zero] at p1 p2 p3 p4 p5 p6 p7 p8 p9 p10 p11
  clear qXp lXp
  have p0 := by obtain ⟨lX, qX, _⟩ := O1.cells 2 rfl; exact qX 0 (by simp)
  simp only [List.getElem?_cons_zero] at p0
  have k1 := Lib.hid (fun wz (O : Own W wz (storeA S T :: refA R T' :: cellsA X [nI k, nI b.id.s, nI b.id.i, nI b.id.g, nI b.mask, nI b.x, nI b.y, nI b.vx, nI b.vy, nI b.hp, nI b.pw, nI b.lf] :: l)) => put_O O hg b (by omega))
  have k2 := Lib.hid (fun wz (O : Own W wz (refA R T' :: storeA S (putS T b).1 :: cellsA X [nI k, nI b.id.s, nI b.id.i, nI b.id.g, nI b.mask, nI b.x, nI b.y, nI b.vx, nI b.vy, nI b.hp, nI b.pw, nI b.lf] :: l)) => refPutS O hg' b (by omega))
  have hans := Lib.hid (fun h => (by rw [h]; simp : (((putS T b).2 == (putS T' b).2) = true)) : Tells T T' ((putS T b).2 == (putS T' b).2))
  generalize (putS T b).2 = z1 at *
  generalize (putS T' b).2 = z2 at *
  generalize (putS T b).1 = T1 at *
  generalize (putS T' b).1 = T2 at *
  replace O1 := Lib.hid O1
  go_enter Try.func21, Try.ntmps21
  rcases hk with rfl | rfl | rfl
  all_goals
    go_upto_region 5 with fail
    go_region_held3 (fun w' => w'.cell? ⟨X, 1, none⟩ = some (nI b.id.s) ∧ w'.cell? ⟨X, 2, none⟩ = some (nI b.id.i) ∧ w'.cell? ⟨X, 3, none⟩ = some (nI b.id.g) ∧ w'.cell? ⟨X, 4, none⟩ = some (nI b.mask) ∧ w'.cell? ⟨X, 5, none⟩ = some (nI b.x) ∧ w'.cell? ⟨X, 6, none⟩ = some (nI b.y) ∧ w'.cell? ⟨X, 7, none⟩ = some (nI b.vx) ∧ w'.cell? ⟨X, 8, none⟩ = some (nI b.vy) ∧ w'.cell? ⟨X, 9, none⟩ = some (nI b.hp) ∧ w'.cell? ⟨X, 10, none⟩ = some (nI b.pw) ∧ w'.cell? ⟨X, 11, none⟩ = some (nI b.lf)) (simp [go_sem, *]) (first | (go_at_call 19; (with_reducible refine (k1.out _ O1.out.drew).mono ?_); rintro e w5 ⟨rfl, O5⟩; obtain ⟨lXq, qXq, _⟩ := O5.cells 2 rfl; haveI : InW X w5 := ⟨lXq⟩; have q1 := qXq 1 (by simp); have q2 := qXq 2 (by simp); have q3 := qXq 3 (by simp); have q4 := qXq 4 (by simp); have q5 := qXq 5 (by simp); have q6 := qXq 6 (by simp); have q7 := qXq 7 (by simp); have q8 := qXq 8 (by simp); have q9 := qXq 9 (by simp); have q10 := qXq 10 (by simp); have q11 := qXq 11 (by simp); simp only [List.getElem?_cons_succ, List.getElem?_cons_zero] at q1 q2 q3 q4 q5 q6 q7 q8 q9 q10 q11; clear qXq lXq) | (go_at_call 40; (with_reducible refine (k2.out _ O5.rot1).mono ?_); rintro e w6 ⟨rfl, O6⟩; obtain ⟨lXr, qXr, _⟩ := O6.cells 2 rfl; haveI : InW X w6 := ⟨lXr⟩; have r1 := qXr 1 (by simp); have r2 := qXr 2 (by simp); have r3 := qXr 3 (by simp); have r4 := qXr 4 (by simp); have r5 := qXr 5 (by simp); have r6 := qXr 6 (by simp); have r7 := qXr 7 (by simp); have r8 := qXr 8 (by simp); have r9 := qXr 9 (by simp); have r10 := qXr 10 (by simp); have r11 := qXr 11 (by simp); simp only [List.getElem?_cons_succ, List.getElem?_cons_zero] at r1 r2 r3 r4 r5 r6 r7 r8 r9 r10 r11; clear qXr lXr))
    all_goals
      go_wp2_with fail
      go_ret
      exact ⟨_, hans.out, rfl, (O6.rot1.pull 2 rfl).drop⟩
set_option maxRecDepth 100000 in
set_option maxHeartbeats 1000000 in
theorem step_write {W wx : World} {S R : Nat} {T T' : Tabs} {l : List Asn} (h : Own W wx (storeA S T :: refA R T' :: l)) (hg : GoodT T) (hg' : GoodT T') (k : Int) (b : BdR) (hk : k = 3 ∨ k = 4) (ht : total T ≤ 80000) (ht' : total T' ≤ 80000) :
    Calls Try.prog 21 #[chP S, chP R, DeedR.v ⟨k, b⟩] wx fun e w' => ∃ v : Bool, Tells T T' v ∧ e = .returned (.bool v) ∧ Own W w' (storeA S (writeS T b).1 :: refA R (writeS T' b).1 :: l) := by
  have O1 : Own W (wx.alloc (.cells #[nI k, nI b.id.s, nI b.id.i, nI b.id.g, nI b.mask, nI b.x, nI b.y, nI b.vx, nI b.vy, nI b.hp, nI b.pw, nI b.lf] 54)) (storeA S T :: refA R T' :: cellsA wx.heap.size [nI k, nI b.id.s, nI b.id.i, nI b.id.g, nI b.mask, nI b.x, nI b.y, nI b.vx, nI b.vy, nI b.hp, nI b.pw, nI b.lf] :: l) := (h.newCells [nI k, nI b.id.s, nI b.id.i, nI b.id.g, nI b.mask, nI b.x, nI b.y, nI b.vx, nI b.vy, nI b.hp, nI b.pw, nI b.lf] 54).perm (List.perm_middle (l₁ := [_, _])).symm
  clear h
  generalize hX : wx.heap.size = X at *
  generalize hwy : wx.alloc (.cells #[nI k, nI b.id.s, nI b.id.i, nI b.id.g, nI b.mask, nI b.x, nI b.y, nI b.vx, nI b.vy, nI b.hp, nI b.pw, nI b.lf] 54) = wy at *
  obtain ⟨lXp, qXp, _⟩ := O1.cells 2 rfl
  haveI : InW X wy := ⟨lXp⟩
  have p1 := qXp 1 (by simp)
  have p2 := qXp 2 (by simp)
  have p3 := qXp 3 (by simp)
  have p4 := qXp 4 (by simp)
  have p5 := qXp 5 (by simp)
  have p6 := qXp 6 (by simp)
  have p7 := qXp 7 (by simp)
  have p8 := qXp 8 (by simp)
  have p9 := qXp 9 (by simp)
  have p10 := qXp 10 (by simp)
  have p11 := qXp 11 (by simp)
  simp only [List.getElem?_cons_succ, List.getElem?_cons_zero] at p1 p2 p3 p4 p5 p6 p7 p8 p9 p10 p11
  clear qXp lXp
  have p0 := by obtain ⟨lX, qX, _⟩ := O1.cells 2 rfl; exact qX 0 (by simp)
  simp only [List.getElem?_cons_zero] at p0
  have k1 := Lib.hid (fun wz (O : Own W wz (storeA S T :: refA R T' :: cellsA X [nI k, nI b.id.s, nI b.id.i, nI b.id.g, nI b.mask, nI b.x, nI b.y, nI b.vx, nI b.vy, nI b.hp, nI b.pw, nI b.lf] :: l)) => write_O O hg b (by omega))
  have k2 := Lib.hid (fun wz (O : Own W wz (refA R T' :: storeA S (writeS T b).1 :: cellsA X [nI k, nI b.id.s, nI b.id.i, nI b.id.g, nI b.mask, nI b.x, nI b.y, nI b.vx, nI b.vy, nI b.hp, nI b.pw, nI b.lf] :: l)) => refWriteS O hg' b (by omega))
  have hans := Lib.hid (fun h => (by rw [h]; simp : (((writeS T b).2 == (writeS T' b).2) = true)) : Tells T T' ((writeS T b).2 == (writeS T' b).2))
  generalize (writeS T b).2 = z1 at *
  generalize (writeS T' b).2 = z2 at *
  generalize (writeS T b).1 = T1 at *
  generalize (writeS T' b).1 = T2 at *
  replace O1 := Lib.hid O1
  go_enter Try.func21, Try.ntmps21
  rcases hk with rfl | rfl
  all_goals
    go_upto_region 8 with fail
    go_region_held3 (fun w' => w'.cell? ⟨X, 1, none⟩ = some (nI b.id.s) ∧ w'.cell? ⟨X, 2, none⟩ = some (nI b.id.i) ∧ w'.cell? ⟨X, 3, none⟩ = some (nI b.id.g) ∧ w'.cell? ⟨X, 4, none⟩ = some (nI b.mask) ∧ w'.cell? ⟨X, 5, none⟩ = some (nI b.x) ∧ w'.cell? ⟨X, 6, none⟩ = some (nI b.y) ∧ w'.cell? ⟨X, 7, none⟩ = some (nI b.vx) ∧ w'.cell? ⟨X, 8, none⟩ = some (nI b.vy) ∧ w'.cell? ⟨X, 9, none⟩ = some (nI b.hp) ∧ w'.cell? ⟨X, 10, none⟩ = some (nI b.pw) ∧ w'.cell? ⟨X, 11, none⟩ = some (nI b.lf)) (simp [go_sem, *]) (first | (go_at_call 25; (with_reducible refine (k1.out _ O1.out.drew).mono ?_); rintro e w5 ⟨rfl, O5⟩; obtain ⟨lXq, qXq, _⟩ := O5.cells 2 rfl; haveI : InW X w5 := ⟨lXq⟩; have q1 := qXq 1 (by simp); have q2 := qXq 2 (by simp); have q3 := qXq 3 (by simp); have q4 := qXq 4 (by simp); have q5 := qXq 5 (by simp); have q6 := qXq 6 (by simp); have q7 := qXq 7 (by simp); have q8 := qXq 8 (by simp); have q9 := qXq 9 (by simp); have q10 := qXq 10 (by simp); have q11 := qXq 11 (by simp); simp only [List.getElem?_cons_succ, List.getElem?_cons_zero] at q1 q2 q3 q4 q5 q6 q7 q8 q9 q10 q11; clear qXq lXq) | (go_at_call 41; (with_reducible refine (k2.out _ O5.rot1).mono ?_); rintro e w6 ⟨rfl, O6⟩; obtain ⟨lXr, qXr, _⟩ := O6.cells 2 rfl; haveI : InW X w6 := ⟨lXr⟩; have r1 := qXr 1 (by simp); have r2 := qXr 2 (by simp); have r3 := qXr 3 (by simp); have r4 := qXr 4 (by simp); have r5 := qXr 5 (by simp); have r6 := qXr 6 (by simp); have r7 := qXr 7 (by simp); have r8 := qXr 8 (by simp); have r9 := qXr 9 (by simp); have r10 := qXr 10 (by simp); have r11 := qXr 11 (by simp); simp only [List.getElem?_cons_succ, List.getElem?_cons_zero] at r1 r2 r3 r4 r5 r6 r7 r8 r9 r10 r11; clear qXr lXr))
    all_goals
      go_wp2_with fail
      go_ret
      exact ⟨_, hans.out, rfl, (O6.rot1.pull 2 rfl).drop⟩
set_option maxRecDepth 100000 in
set_option maxHeartbeats 1000000 in
theorem step_remove {W wx : World} {S R : Nat} {T T' : Tabs} {l : List Asn} (h : Own W wx (storeA S T :: refA R T' :: l)) (hg : GoodT T) (hg' : GoodT T') (k : Int) (b : BdR) (hk : k = 5) (hid : IdW b.id) (ht : total T ≤ 80000) (ht' : total T' ≤ 80000) :
    Calls Try.prog 21 #[chP S, chP R, DeedR.v ⟨k, b⟩] wx fun e w' => ∃ v : Bool, Tells T T' v ∧ e = .returned (.bool v) ∧ Own W w' (storeA S (removeS T b.id).1 :: refA R (removeS T' b.id).1 :: l) := by
  have O1 : Own W (wx.alloc (.cells #[nI k, nI b.id.s, nI b.id.i, nI b.id.g, nI b.mask, nI b.x, nI b.y, nI b.vx, nI b.vy, nI b.hp, nI b.pw, nI b.lf] 54)) (storeA S T :: refA R T' :: cellsA wx.heap.size [nI k, nI b.id.s, nI b.id.i, nI b.id.g, nI b.mask, nI b.x, nI b.y, nI b.vx, nI b.vy, nI b.hp, nI b.pw, nI b.lf] :: l) := (h.newCells [nI k, nI b.id.s, nI b.id.i, nI b.id.g, nI b.mask, nI b.x, nI b.y, nI b.vx, nI b.vy, nI b.hp, nI b.pw, nI b.lf] 54).perm (List.perm_middle (l₁ := [_, _])).symm
  clear h
  generalize hX : wx.heap.size = X at *
  generalize hwy : wx.alloc (.cells #[nI k, nI b.id.s, nI b.id.i, nI b.id.g, nI b.mask, nI b.x, nI b.y, nI b.vx, nI b.vy, nI b.hp, nI b.pw, nI b.lf] 54) = wy at *
  obtain ⟨lXp, qXp, _⟩ := O1.cells 2 rfl
  haveI : InW X wy := ⟨lXp⟩
  have p1 := qXp 1 (by simp)
  have p2 := qXp 2 (by simp)
  have p3 := qXp 3 (by simp)
  have p4 := qXp 4 (by simp)
  have p5 := qXp 5 (by simp)
  have p6 := qXp 6 (by simp)
  have p7 := qXp 7 (by simp)
  have p8 := qXp 8 (by simp)
  have p9 := qXp 9 (by simp)
  have p10 := qXp 10 (by simp)
  have p11 := qXp 11 (by simp)
  simp only [List.getElem?_cons_succ, List.getElem?_cons_zero] at p1 p2 p3 p4 p5 p6 p7 p8 p9 p10 p11
  clear qXp lXp
  have p0 := by obtain ⟨lX, qX, _⟩ := O1.cells 2 rfl; exact qX 0 (by simp)
  simp only [List.getElem?_cons_zero] at p0
  have k1 := Lib.hid (fun wz (O : Own W wz (storeA S T :: refA R T' :: cellsA X [nI k, nI b.id.s, nI b.id.i, nI b.id.g, nI b.mask, nI b.x, nI b.y, nI b.vx, nI b.vy, nI b.hp, nI b.pw, nI b.lf] :: l)) => remove_O O hg b.id hid (by omega))
  have k2 := Lib.hid (fun wz (O : Own W wz (refA R T' :: storeA S (removeS T b.id).1 :: cellsA X [nI k, nI b.id.s, nI b.id.i, nI b.id.g, nI b.mask, nI b.x, nI b.y, nI b.vx, nI b.vy, nI b.hp, nI b.pw, nI b.lf] :: l)) => refRemoveS O hg' b.id (by omega))
  have hans := Lib.hid (fun h => (by rw [h]; simp : (((removeS T b.id).2 == (removeS T' b.id).2) = true)) : Tells T T' ((removeS T b.id).2 == (removeS T' b.id).2))
  generalize (removeS T b.id).2 = z1 at *
  generalize (removeS T' b.id).2 = z2 at *
  generalize (removeS T b.id).1 = T1 at *
  generalize (removeS T' b.id).1 = T2 at *
  replace O1 := Lib.hid O1
  go_enter Try.func21, Try.ntmps21
  subst hk
  focus
    go_upto_region 10 with fail
    go_region_held3 (fun w' => w'.cell? ⟨X, 1, none⟩ = some (nI b.id.s) ∧ w'.cell? ⟨X, 2, none⟩ = some (nI b.id.i) ∧ w'.cell? ⟨X, 3, none⟩ = some (nI b.id.g)) (simp [go_sem, *]) (first | (go_at_call 28; (with_reducible refine (k1.out _ O1.out.drew).mono ?_); rintro e w5 ⟨rfl, O5⟩; obtain ⟨lXq, qXq, _⟩ := O5.cells 2 rfl; haveI : InW X w5 := ⟨lXq⟩; have q1 := qXq 1 (by simp); have q2 := qXq 2 (by simp); have q3 := qXq 3 (by simp); have q4 := qXq 4 (by simp); have q5 := qXq 5 (by simp); have q6 := qXq 6 (by simp); have q7 := qXq 7 (by simp); have q8 := qXq 8 (by simp); have q9 := qXq 9 (by simp); have q10 := qXq 10 (by simp); have q11 := qXq 11 (by simp); simp only [List.getElem?_cons_succ, List.getElem?_cons_zero] at q1 q2 q3 q4 q5 q6 q7 q8 q9 q10 q11; clear qXq lXq) | (go_at_call 42; (with_reducible refine (k2.out _ O5.rot1).mono ?_); rintro e w6 ⟨rfl, O6⟩; obtain ⟨lXr, qXr, _⟩ := O6.cells 2 rfl; haveI : InW X w6 := ⟨lXr⟩; have r1 := qXr 1 (by simp); have r2 := qXr 2 (by simp); have r3 := qXr 3 (by simp); have r4 := qXr 4 (by simp); have r5 := qXr 5 (by simp); have r6 := qXr 6 (by simp); have r7 := qXr 7 (by simp); have r8 := qXr 8 (by simp); have r9 := qXr 9 (by simp); have r10 := qXr 10 (by simp); have r11 := qXr 11 (by simp); simp only [List.getElem?_cons_succ, List.getElem?_cons_zero] at r1 r2 r3 r4 r5 r6 r7 r8 r9 r10 r11; clear qXr lXr))
    all_goals
      go_wp2_with fail
      go_ret
      exact ⟨_, hans.out, rfl, (O6.rot1.pull 2 rfl).drop⟩
set_option maxRecDepth 100000 in
set_option maxHeartbeats 1000000 in
theorem step_none {W wx : World} {S R : Nat} {T T' : Tabs} {l : List Asn} (h : Own W wx (storeA S T :: refA R T' :: l)) (k : Int) (b : BdR) (h0 : ¬ (k = 0 ∨ k = 1 ∨ k = 2)) (h3 : ¬ (k = 3 ∨ k = 4)) (h5 : k ≠ 5) :
    Calls Try.prog 21 #[chP S, chP R, DeedR.v ⟨k, b⟩] wx fun e w' => ∃ v : Bool, Tells T T' v ∧ e = .returned (.bool v) ∧ Own W w' (storeA S T :: refA R T' :: l) := by
  have e0 : (k == 0) = false := by simp; omega
  have e1 : (k == 1) = false := by simp; omega
  have e2 : (k == 2) = false := by simp; omega
  have e3 : (k == 3) = false := by simp; omega
  have e4 : (k == 4) = false := by simp; omega
  have e5 : (k == 5) = false := by simp; omega
  clear h0 h3 h5
  have hW := Lib.hid (Own.atP h)
  clear h
  go_enter Try.func21, Try.ntmps21
  go_wp2_with fail
  go_ret
  exact ⟨_, fun _ => rfl, rfl, hW.out _ (by (repeat (first | exact Plus.refl _ | apply Plus.plus | apply Plus.alloc | apply Plus.drew)))⟩
theorem step_O {W wx : World} {S R : Nat} {T T' : Tabs} {l : List Asn} (h : Own W wx (storeA S T :: refA R T' :: l)) (hg : GoodT T) (hg' : GoodT T') (x : DeedR) (hid : IdW x.b.id) (ht : total T ≤ 80000) (ht' : total T' ≤ 80000) :
    Calls Try.prog 21 #[chP S, chP R, x.v] wx fun e w' => ∃ v : Bool, Tells T T' v ∧ e = .returned (.bool v) ∧ Own W w' (storeA S (stepT T x) :: refA R (stepT T' x) :: l) := by
  obtain ⟨k, b⟩ := x
  unfold stepT
  simp only
  by_cases h0 : k = 0 ∨ k = 1 ∨ k = 2
  · rw [if_pos h0, if_pos h0]; exact step_put h hg hg' k b h0 ht ht'
  · rw [if_neg h0, if_neg h0]
    by_cases h3 : k = 3 ∨ k = 4
    · rw [if_pos h3, if_pos h3]; exact step_write h hg hg' k b h3 ht ht'
    · rw [if_neg h3, if_neg h3]
      by_cases h5 : k = 5
      · rw [if_pos h5, if_pos h5]; exact step_remove h hg hg' k b h5 hid ht ht'
      · rw [if_neg h5, if_neg h5]; exact step_none h k b h0 h3 h5
theorem good_stepT {T : Tabs} (h : GoodT T) (x : DeedR) : GoodT (stepT T x) := by
  unfold stepT
  split
  · exact good_putS h x.b
  · split
    · exact good_writeS h x.b
    · split
      · exact good_removeS h x.b.id
      · exact h
theorem cln_stepT {T : Tabs} (h : Cln T) (x : DeedR) : Cln (stepT T x) := by
  unfold stepT
  split
  · exact cln_putS h x.b
  · split
    · exact cln_writeS h x.b
    · split
      · exact cln_removeS h x.b.id
      · exact h
theorem total_stepT (T : Tabs) (x : DeedR) : total (stepT T x) ≤ total T + 1 := by
  unfold stepT
  split
  · exact total_putS T x.b
  · split
    · rw [total_writeS]; omega
    · split
      · have := total_removeS T x.b.id; omega
      · omega
end Go.Proofs.Ytanbppejfhnjbaa
