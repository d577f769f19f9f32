/- buffer: With and Without, the program's: walk. -/
import Derived.Test.YtkdagljoiacaaaaBuf1
import Derived.Test.YtkdagljoiacaaaaAr5
import Derived.Deep.CutBlock
import Derived.Deep.DeepCutAuto
set_option linter.unusedSimpArgs false
set_option linter.unusedVariables false
namespace Go.Proofs.Ytkdagljoiacaaaa
open Go.RowKit
theorem box_fz {W wz : World} {l : List Asn} {X : Nat} {b : BdR} (i : Nat) (O : Own W wz l) (hi : l[i]? = some (cellsA X [nI b.id.s, nI b.id.i, nI b.id.g, nI b.mask, nI b.x, nI b.y, nI b.vx, nI b.vy, nI b.hp, nI b.pw, nI b.lf])) : ∀ j, wz.frozen? ⟨X, j, none⟩ = false := (O.cells i hi).2.2
set_option maxRecDepth 100000 in
set_option maxHeartbeats 4000000 in
theorem with_any (b c : BdR) (w : World) : Calls Try.prog 33 #[b.v, c.v] w fun e w' => e = .returned (withB b c).v ∧ w.Plus w' := by
  obtain ⟨⟨is, ii, ig⟩, bm, bx, by', bvx, bvy, bhp, bpw, blf⟩ := b
  have kH := Lib.hid (fun (p : Int) (hp : p = 1 ∨ p = 2 ∨ p = 4 ∨ p = 8 ∨ p = 16) (w' : World) => has_Z c p w' hp)
  obtain ⟨⟨cs, ci, cg⟩, cm, cx, cy, cvx, cvy, chp, cpw, clf⟩ := c
  unfold withB
  dsimp only at kH ⊢
  obtain ⟨v4, h4⟩ : ∃ v, v = pick cm 1 cx bx := ⟨_, rfl⟩
  obtain ⟨v5, h5⟩ : ∃ v, v = pick cm 1 cy by' := ⟨_, rfl⟩
  obtain ⟨v6, h6⟩ : ∃ v, v = pick cm 2 cvx bvx := ⟨_, rfl⟩
  obtain ⟨v7, h7⟩ : ∃ v, v = pick cm 2 cvy bvy := ⟨_, rfl⟩
  obtain ⟨v8, h8⟩ : ∃ v, v = pick cm 4 chp bhp := ⟨_, rfl⟩
  obtain ⟨v9, h9⟩ : ∃ v, v = pick cm 8 cpw bpw := ⟨_, rfl⟩
  obtain ⟨v10, h10⟩ : ∃ v, v = pick cm 16 clf blf := ⟨_, rfl⟩
  rw [← h4, ← h5, ← h6, ← h7, ← h8, ← h9, ← h10]
  unfold pick at h4 h5 h6 h7 h8 h9 h10
  obtain ⟨t1, g1⟩ : ∃ t, t = bitB cm 1 := ⟨_, rfl⟩
  obtain ⟨t2, g2⟩ : ∃ t, t = bitB cm 2 := ⟨_, rfl⟩
  obtain ⟨t4, g4⟩ : ∃ t, t = bitB cm 4 := ⟨_, rfl⟩
  obtain ⟨t8, g8⟩ : ∃ t, t = bitB cm 8 := ⟨_, rfl⟩
  obtain ⟨t16, g16⟩ : ∃ t, t = bitB cm 16 := ⟨_, rfl⟩
  rw [← g1] at h4
  replace h4 := Lib.hid h4
  rw [← g1] at h5
  replace h5 := Lib.hid h5
  rw [← g2] at h6
  replace h6 := Lib.hid h6
  rw [← g2] at h7
  replace h7 := Lib.hid h7
  rw [← g4] at h8
  replace h8 := Lib.hid h8
  rw [← g8] at h9
  replace h9 := Lib.hid h9
  rw [← g16] at h10
  replace h10 := Lib.hid h10
  have k1 : RowKit.Hid (∀ w', Calls Try.prog 53 #[BdR.v ⟨⟨cs, ci, cg⟩, cm, cx, cy, cvx, cvy, chp, cpw, clf⟩, nI 1] w' fun e w2 => e = .returned (.bool t1) ∧ w'.Plus w2) := Lib.hid (fun w' => by rw [g1]; exact kH.out 1 (by simp) w')
  have k2 : RowKit.Hid (∀ w', Calls Try.prog 53 #[BdR.v ⟨⟨cs, ci, cg⟩, cm, cx, cy, cvx, cvy, chp, cpw, clf⟩, nI 2] w' fun e w2 => e = .returned (.bool t2) ∧ w'.Plus w2) := Lib.hid (fun w' => by rw [g2]; exact kH.out 2 (by simp) w')
  have k4 : RowKit.Hid (∀ w', Calls Try.prog 53 #[BdR.v ⟨⟨cs, ci, cg⟩, cm, cx, cy, cvx, cvy, chp, cpw, clf⟩, nI 4] w' fun e w2 => e = .returned (.bool t4) ∧ w'.Plus w2) := Lib.hid (fun w' => by rw [g4]; exact kH.out 4 (by simp) w')
  have k8 : RowKit.Hid (∀ w', Calls Try.prog 53 #[BdR.v ⟨⟨cs, ci, cg⟩, cm, cx, cy, cvx, cvy, chp, cpw, clf⟩, nI 8] w' fun e w2 => e = .returned (.bool t8) ∧ w'.Plus w2) := Lib.hid (fun w' => by rw [g8]; exact kH.out 8 (by simp) w')
  have k16 : RowKit.Hid (∀ w', Calls Try.prog 53 #[BdR.v ⟨⟨cs, ci, cg⟩, cm, cx, cy, cvx, cvy, chp, cpw, clf⟩, nI 16] w' fun e w2 => e = .returned (.bool t16) ∧ w'.Plus w2) := Lib.hid (fun w' => by rw [g16]; exact kH.out 16 (by simp) w')
  clear g1
  clear g2
  clear g4
  clear g8
  clear g16
  clear kH
  have O0 : Own w (((w.alloc (.cells #[nI is, nI ii, nI ig, nI bm, nI bx, nI by', nI bvx, nI bvy, nI bhp, nI bpw, nI blf] 40)).alloc (.cells #[nI cs, nI ci, nI cg, nI cm, nI cx, nI cy, nI cvx, nI cvy, nI chp, nI cpw, nI clf] 40)).alloc (.cells #[nI 0, nI 0, nI 0, nI 0, nI 0, nI 0, nI 0, nI 0, nI 0, nI 0, nI 0] 40)) (cellsA w.heap.size [nI is, nI ii, nI ig, nI bm, nI bx, nI by', nI bvx, nI bvy, nI bhp, nI bpw, nI blf] :: cellsA (w.heap.size + 1) [nI cs, nI ci, nI cg, nI cm, nI cx, nI cy, nI cvx, nI cvy, nI chp, nI cpw, nI clf] :: cellsA (w.heap.size + 1 + 1) [nI 0, nI 0, nI 0, nI 0, nI 0, nI 0, nI 0, nI 0, nI 0, nI 0, nI 0] :: []) := by
    have := (((Own.start w).newCells [nI is, nI ii, nI ig, nI bm, nI bx, nI by', nI bvx, nI bvy, nI bhp, nI bpw, nI blf] 40).newCells [nI cs, nI ci, nI cg, nI cm, nI cx, nI cy, nI cvx, nI cvy, nI chp, nI cpw, nI clf] 40).newCells [nI 0, nI 0, nI 0, nI 0, nI 0, nI 0, nI 0, nI 0, nI 0, nI 0, nI 0] 40
    rw [World.size_alloc, World.size_alloc] at this
    exact this.perm ((List.Perm.swap _ _ _).trans ((List.Perm.cons _ (List.Perm.swap _ _ _)).trans (List.Perm.swap _ _ _)))
  go_enter Try.func33, Try.ntmps33
  go_upto_region 1 with fail
  generalize w.heap.size = X at *
  obtain ⟨Y, hY⟩ : ∃ Y, Y = X + 1 := ⟨_, rfl⟩
  rw [← hY] at O0 ⊢
  obtain ⟨Z, hZ⟩ : ∃ Z, Z = Y + 1 := ⟨_, rfl⟩
  rw [← hZ] at O0 ⊢
  obtain ⟨w1, hw1⟩ : ∃ w1, (((w.alloc (.cells #[nI is, nI ii, nI ig, nI bm, nI bx, nI by', nI bvx, nI bvy, nI bhp, nI bpw, nI blf] 40)).alloc (.cells #[nI cs, nI ci, nI cg, nI cm, nI cx, nI cy, nI cvx, nI cvy, nI chp, nI cpw, nI clf] 40)).alloc (.cells #[nI 0, nI 0, nI 0, nI 0, nI 0, nI 0, nI 0, nI 0, nI 0, nI 0, nI 0] 40)) = w1 := ⟨_, rfl⟩
  rw [hw1] at O0 ⊢
  clear hw1 hY hZ
  obtain ⟨hInX, q0, q1, q2, q3, q4, q5, q6, q7, q8, q9, q10⟩ := box_at (b := ⟨⟨is, ii, ig⟩, bm, bx, by', bvx, bvy, bhp, bpw, blf⟩) 0 O0 rfl
  dsimp only at q0 q1 q2 q3 q4 q5 q6 q7 q8 q9 q10
  obtain ⟨hInY, r0, r1, r2, r3, r4, r5, r6, r7, r8, r9, r10⟩ := box_at (b := ⟨⟨cs, ci, cg⟩, cm, cx, cy, cvx, cvy, chp, cpw, clf⟩) 1 O0 rfl
  dsimp only at r0 r1 r2 r3 r4 r5 r6 r7 r8 r9 r10
  have fX := box_fz (b := ⟨⟨is, ii, ig⟩, bm, bx, by', bvx, bvy, bhp, bpw, blf⟩) 0 O0 rfl
  replace O0 := Lib.hid O0
  go_upto_region 2 with fail
  have O2 := O0.out.setCellAt 0 3 (nI (bits .or .i64 bm cm)) rfl (by simp)
  simp only [List.set_cons_succ, List.set_cons_zero] at O2
  obtain ⟨w2, hw2⟩ : ∃ w2, w1.setCell ⟨X, 3, none⟩ (nI (bits .or .i64 bm cm)) = w2 := ⟨_, rfl⟩
  rw [hw2] at O2 ⊢
  clear hw2 O0
  clear fX q0 q1 q2 q3 q4 q5 q6 q7 q8 q9 q10 r0 r1 r2 r3 r4 r5 r6 r7 r8 r9 r10 hInX hInY
  generalize hm1 : bits .or .i64 bm cm = m1 at *
  replace hm1 := Lib.hid hm1
  obtain ⟨hInX, q0, q1, q2, q3, q4, q5, q6, q7, q8, q9, q10⟩ := box_at (b := ⟨⟨is, ii, ig⟩, m1, bx, by', bvx, bvy, bhp, bpw, blf⟩) 0 O2 rfl
  dsimp only at q0 q1 q2 q3 q4 q5 q6 q7 q8 q9 q10
  obtain ⟨hInY, r0, r1, r2, r3, r4, r5, r6, r7, r8, r9, r10⟩ := box_at (b := ⟨⟨cs, ci, cg⟩, cm, cx, cy, cvx, cvy, chp, cpw, clf⟩) 1 O2 rfl
  dsimp only at r0 r1 r2 r3 r4 r5 r6 r7 r8 r9 r10
  have fX := box_fz (b := ⟨⟨is, ii, ig⟩, m1, bx, by', bvx, bvy, bhp, bpw, blf⟩) 0 O2 rfl
  replace O2 := Lib.hid O2
  go_upto_if 12 with (go_at_call 53; (with_reducible refine (k1.out _).mono ?_); rintro e w' ⟨rfl, ey, rfl⟩)
  have O3 := O2.out.plus ey
  generalize w2.plus ey = w3 at *
  clear O2
  clear fX q0 q1 q2 q3 q4 q5 q6 q7 q8 q9 q10 r0 r1 r2 r3 r4 r5 r6 r7 r8 r9 r10 hInX hInY
  obtain ⟨hInX, q0, q1, q2, q3, q4, q5, q6, q7, q8, q9, q10⟩ := box_at (b := ⟨⟨is, ii, ig⟩, m1, bx, by', bvx, bvy, bhp, bpw, blf⟩) 0 O3 rfl
  dsimp only at q0 q1 q2 q3 q4 q5 q6 q7 q8 q9 q10
  obtain ⟨hInY, r0, r1, r2, r3, r4, r5, r6, r7, r8, r9, r10⟩ := box_at (b := ⟨⟨cs, ci, cg⟩, cm, cx, cy, cvx, cvy, chp, cpw, clf⟩) 1 O3 rfl
  dsimp only at r0 r1 r2 r3 r4 r5 r6 r7 r8 r9 r10
  have fX := box_fz (b := ⟨⟨is, ii, ig⟩, m1, bx, by', bvx, bvy, bhp, bpw, blf⟩) 0 O3 rfl
  replace O3 := Lib.hid O3
  go_cut [] (fun wz => Own w wz (cellsA X [nI is, nI ii, nI ig, nI m1, nI v4, nI v5, nI bvx, nI bvy, nI bhp, nI bpw, nI blf] :: cellsA Y [nI cs, nI ci, nI cg, nI cm, nI cx, nI cy, nI cvx, nI cvy, nI chp, nI cpw, nI clf] :: cellsA Z [nI 0, nI 0, nI 0, nI 0, nI 0, nI 0, nI 0, nI 0, nI 0, nI 0, nI 0] :: []))
  case first =>
    cases t1 with
    | false =>
      obtain rfl : v4 = bx := by simpa using h4.out
      obtain rfl : v5 = by' := by simpa using h5.out
      go_wp2_with fail
      go_meet
      exact O3.out
    | true =>
      obtain rfl : v4 = cx := by simpa using h4.out
      obtain rfl : v5 = cy := by simpa using h5.out
      go_upto_region 3 with fail
      go_region
      all_goals
        go_wp2_with fail
        go_meet
        first
          | exact (O3.out.setCellAt 0 4 _ rfl (by simp)).setCellAt 0 5 _ rfl (by simp)
          | exact (O3.out.setCellAt 0 5 _ rfl (by simp)).setCellAt 0 4 _ rfl (by simp)
          | exact (O3.out.drew.setCellAt 0 4 _ rfl (by simp)).setCellAt 0 5 _ rfl (by simp)
          | exact (O3.out.drew.setCellAt 0 5 _ rfl (by simp)).setCellAt 0 4 _ rfl (by simp)
  clear O3 k1 h4 h5
  clear fX q0 q1 q2 q3 q4 q5 q6 q7 q8 q9 q10 r0 r1 r2 r3 r4 r5 r6 r7 r8 r9 r10 hInX hInY
  have O2 := hcut
  obtain ⟨hInX, q0, q1, q2, q3, q4, q5, q6, q7, q8, q9, q10⟩ := box_at (b := ⟨⟨is, ii, ig⟩, m1, v4, v5, bvx, bvy, bhp, bpw, blf⟩) 0 O2 rfl
  dsimp only at q0 q1 q2 q3 q4 q5 q6 q7 q8 q9 q10
  obtain ⟨hInY, r0, r1, r2, r3, r4, r5, r6, r7, r8, r9, r10⟩ := box_at (b := ⟨⟨cs, ci, cg⟩, cm, cx, cy, cvx, cvy, chp, cpw, clf⟩) 1 O2 rfl
  dsimp only at r0 r1 r2 r3 r4 r5 r6 r7 r8 r9 r10
  have fX := box_fz (b := ⟨⟨is, ii, ig⟩, m1, v4, v5, bvx, bvy, bhp, bpw, blf⟩) 0 O2 rfl
  replace O2 := Lib.hid O2
  clear hcut
  go_upto_if 20 with (go_at_call 53; (with_reducible refine (k2.out _).mono ?_); rintro e w' ⟨rfl, ey, rfl⟩)
  have O3 := O2.out.plus ey
  generalize wc.plus ey = w3 at *
  clear O2
  clear fX q0 q1 q2 q3 q4 q5 q6 q7 q8 q9 q10 r0 r1 r2 r3 r4 r5 r6 r7 r8 r9 r10 hInX hInY
  obtain ⟨hInX, q0, q1, q2, q3, q4, q5, q6, q7, q8, q9, q10⟩ := box_at (b := ⟨⟨is, ii, ig⟩, m1, v4, v5, bvx, bvy, bhp, bpw, blf⟩) 0 O3 rfl
  dsimp only at q0 q1 q2 q3 q4 q5 q6 q7 q8 q9 q10
  obtain ⟨hInY, r0, r1, r2, r3, r4, r5, r6, r7, r8, r9, r10⟩ := box_at (b := ⟨⟨cs, ci, cg⟩, cm, cx, cy, cvx, cvy, chp, cpw, clf⟩) 1 O3 rfl
  dsimp only at r0 r1 r2 r3 r4 r5 r6 r7 r8 r9 r10
  have fX := box_fz (b := ⟨⟨is, ii, ig⟩, m1, v4, v5, bvx, bvy, bhp, bpw, blf⟩) 0 O3 rfl
  replace O3 := Lib.hid O3
  go_cut [] (fun wz => Own w wz (cellsA X [nI is, nI ii, nI ig, nI m1, nI v4, nI v5, nI v6, nI v7, nI bhp, nI bpw, nI blf] :: cellsA Y [nI cs, nI ci, nI cg, nI cm, nI cx, nI cy, nI cvx, nI cvy, nI chp, nI cpw, nI clf] :: cellsA Z [nI 0, nI 0, nI 0, nI 0, nI 0, nI 0, nI 0, nI 0, nI 0, nI 0, nI 0] :: []))
  case first =>
    cases t2 with
    | false =>
      obtain rfl : v6 = bvx := by simpa using h6.out
      obtain rfl : v7 = bvy := by simpa using h7.out
      go_wp2_with fail
      go_meet
      exact O3.out
    | true =>
      obtain rfl : v6 = cvx := by simpa using h6.out
      obtain rfl : v7 = cvy := by simpa using h7.out
      go_upto_region 5 with fail
      go_region
      all_goals
        go_wp2_with fail
        go_meet
        first
          | exact (O3.out.setCellAt 0 6 _ rfl (by simp)).setCellAt 0 7 _ rfl (by simp)
          | exact (O3.out.setCellAt 0 7 _ rfl (by simp)).setCellAt 0 6 _ rfl (by simp)
          | exact (O3.out.drew.setCellAt 0 6 _ rfl (by simp)).setCellAt 0 7 _ rfl (by simp)
          | exact (O3.out.drew.setCellAt 0 7 _ rfl (by simp)).setCellAt 0 6 _ rfl (by simp)
  clear O3 k2 h6 h7
  clear fX q0 q1 q2 q3 q4 q5 q6 q7 q8 q9 q10 r0 r1 r2 r3 r4 r5 r6 r7 r8 r9 r10 hInX hInY
  have O2 := hcut
  obtain ⟨hInX, q0, q1, q2, q3, q4, q5, q6, q7, q8, q9, q10⟩ := box_at (b := ⟨⟨is, ii, ig⟩, m1, v4, v5, v6, v7, bhp, bpw, blf⟩) 0 O2 rfl
  dsimp only at q0 q1 q2 q3 q4 q5 q6 q7 q8 q9 q10
  obtain ⟨hInY, r0, r1, r2, r3, r4, r5, r6, r7, r8, r9, r10⟩ := box_at (b := ⟨⟨cs, ci, cg⟩, cm, cx, cy, cvx, cvy, chp, cpw, clf⟩) 1 O2 rfl
  dsimp only at r0 r1 r2 r3 r4 r5 r6 r7 r8 r9 r10
  have fX := box_fz (b := ⟨⟨is, ii, ig⟩, m1, v4, v5, v6, v7, bhp, bpw, blf⟩) 0 O2 rfl
  replace O2 := Lib.hid O2
  clear hcut
  go_upto_if 28 with (go_at_call 53; (with_reducible refine (k4.out _).mono ?_); rintro e w' ⟨rfl, ey, rfl⟩)
  have O3 := O2.out.plus ey
  generalize wc.plus ey = w3 at *
  clear O2
  clear fX q0 q1 q2 q3 q4 q5 q6 q7 q8 q9 q10 r0 r1 r2 r3 r4 r5 r6 r7 r8 r9 r10 hInX hInY
  obtain ⟨hInX, q0, q1, q2, q3, q4, q5, q6, q7, q8, q9, q10⟩ := box_at (b := ⟨⟨is, ii, ig⟩, m1, v4, v5, v6, v7, bhp, bpw, blf⟩) 0 O3 rfl
  dsimp only at q0 q1 q2 q3 q4 q5 q6 q7 q8 q9 q10
  obtain ⟨hInY, r0, r1, r2, r3, r4, r5, r6, r7, r8, r9, r10⟩ := box_at (b := ⟨⟨cs, ci, cg⟩, cm, cx, cy, cvx, cvy, chp, cpw, clf⟩) 1 O3 rfl
  dsimp only at r0 r1 r2 r3 r4 r5 r6 r7 r8 r9 r10
  have fX := box_fz (b := ⟨⟨is, ii, ig⟩, m1, v4, v5, v6, v7, bhp, bpw, blf⟩) 0 O3 rfl
  replace O3 := Lib.hid O3
  go_cut [] (fun wz => Own w wz (cellsA X [nI is, nI ii, nI ig, nI m1, nI v4, nI v5, nI v6, nI v7, nI v8, nI bpw, nI blf] :: cellsA Y [nI cs, nI ci, nI cg, nI cm, nI cx, nI cy, nI cvx, nI cvy, nI chp, nI cpw, nI clf] :: cellsA Z [nI 0, nI 0, nI 0, nI 0, nI 0, nI 0, nI 0, nI 0, nI 0, nI 0, nI 0] :: []))
  case first =>
    cases t4 with
    | false =>
      obtain rfl : v8 = bhp := by simpa using h8.out
      go_wp2_with fail
      go_meet
      exact O3.out
    | true =>
      obtain rfl : v8 = chp := by simpa using h8.out
      go_wp2_with fail
      go_meet
      exact O3.out.setCellAt 0 8 _ rfl (by simp)
  clear O3 k4 h8
  clear fX q0 q1 q2 q3 q4 q5 q6 q7 q8 q9 q10 r0 r1 r2 r3 r4 r5 r6 r7 r8 r9 r10 hInX hInY
  have O2 := hcut
  obtain ⟨hInX, q0, q1, q2, q3, q4, q5, q6, q7, q8, q9, q10⟩ := box_at (b := ⟨⟨is, ii, ig⟩, m1, v4, v5, v6, v7, v8, bpw, blf⟩) 0 O2 rfl
  dsimp only at q0 q1 q2 q3 q4 q5 q6 q7 q8 q9 q10
  obtain ⟨hInY, r0, r1, r2, r3, r4, r5, r6, r7, r8, r9, r10⟩ := box_at (b := ⟨⟨cs, ci, cg⟩, cm, cx, cy, cvx, cvy, chp, cpw, clf⟩) 1 O2 rfl
  dsimp only at r0 r1 r2 r3 r4 r5 r6 r7 r8 r9 r10
  have fX := box_fz (b := ⟨⟨is, ii, ig⟩, m1, v4, v5, v6, v7, v8, bpw, blf⟩) 0 O2 rfl
  replace O2 := Lib.hid O2
  clear hcut
  go_upto_if 33 with (go_at_call 53; (with_reducible refine (k8.out _).mono ?_); rintro e w' ⟨rfl, ey, rfl⟩)
  have O3 := O2.out.plus ey
  generalize wc.plus ey = w3 at *
  clear O2
  clear fX q0 q1 q2 q3 q4 q5 q6 q7 q8 q9 q10 r0 r1 r2 r3 r4 r5 r6 r7 r8 r9 r10 hInX hInY
  obtain ⟨hInX, q0, q1, q2, q3, q4, q5, q6, q7, q8, q9, q10⟩ := box_at (b := ⟨⟨is, ii, ig⟩, m1, v4, v5, v6, v7, v8, bpw, blf⟩) 0 O3 rfl
  dsimp only at q0 q1 q2 q3 q4 q5 q6 q7 q8 q9 q10
  obtain ⟨hInY, r0, r1, r2, r3, r4, r5, r6, r7, r8, r9, r10⟩ := box_at (b := ⟨⟨cs, ci, cg⟩, cm, cx, cy, cvx, cvy, chp, cpw, clf⟩) 1 O3 rfl
  dsimp only at r0 r1 r2 r3 r4 r5 r6 r7 r8 r9 r10
  have fX := box_fz (b := ⟨⟨is, ii, ig⟩, m1, v4, v5, v6, v7, v8, bpw, blf⟩) 0 O3 rfl
  replace O3 := Lib.hid O3
  go_cut [] (fun wz => Own w wz (cellsA X [nI is, nI ii, nI ig, nI m1, nI v4, nI v5, nI v6, nI v7, nI v8, nI v9, nI blf] :: cellsA Y [nI cs, nI ci, nI cg, nI cm, nI cx, nI cy, nI cvx, nI cvy, nI chp, nI cpw, nI clf] :: cellsA Z [nI 0, nI 0, nI 0, nI 0, nI 0, nI 0, nI 0, nI 0, nI 0, nI 0, nI 0] :: []))
  case first =>
    cases t8 with
    | false =>
      obtain rfl : v9 = bpw := by simpa using h9.out
      go_wp2_with fail
      go_meet
      exact O3.out
    | true =>
      obtain rfl : v9 = cpw := by simpa using h9.out
      go_wp2_with fail
      go_meet
      exact O3.out.setCellAt 0 9 _ rfl (by simp)
  clear O3 k8 h9
  clear fX q0 q1 q2 q3 q4 q5 q6 q7 q8 q9 q10 r0 r1 r2 r3 r4 r5 r6 r7 r8 r9 r10 hInX hInY
  have O2 := hcut
  obtain ⟨hInX, q0, q1, q2, q3, q4, q5, q6, q7, q8, q9, q10⟩ := box_at (b := ⟨⟨is, ii, ig⟩, m1, v4, v5, v6, v7, v8, v9, blf⟩) 0 O2 rfl
  dsimp only at q0 q1 q2 q3 q4 q5 q6 q7 q8 q9 q10
  obtain ⟨hInY, r0, r1, r2, r3, r4, r5, r6, r7, r8, r9, r10⟩ := box_at (b := ⟨⟨cs, ci, cg⟩, cm, cx, cy, cvx, cvy, chp, cpw, clf⟩) 1 O2 rfl
  dsimp only at r0 r1 r2 r3 r4 r5 r6 r7 r8 r9 r10
  have fX := box_fz (b := ⟨⟨is, ii, ig⟩, m1, v4, v5, v6, v7, v8, v9, blf⟩) 0 O2 rfl
  replace O2 := Lib.hid O2
  clear hcut
  go_upto_if 38 with (go_at_call 53; (with_reducible refine (k16.out _).mono ?_); rintro e w' ⟨rfl, ey, rfl⟩)
  have O3 := O2.out.plus ey
  generalize wc.plus ey = w3 at *
  clear O2
  clear fX q0 q1 q2 q3 q4 q5 q6 q7 q8 q9 q10 r0 r1 r2 r3 r4 r5 r6 r7 r8 r9 r10 hInX hInY
  obtain ⟨hInX, q0, q1, q2, q3, q4, q5, q6, q7, q8, q9, q10⟩ := box_at (b := ⟨⟨is, ii, ig⟩, m1, v4, v5, v6, v7, v8, v9, blf⟩) 0 O3 rfl
  dsimp only at q0 q1 q2 q3 q4 q5 q6 q7 q8 q9 q10
  obtain ⟨hInY, r0, r1, r2, r3, r4, r5, r6, r7, r8, r9, r10⟩ := box_at (b := ⟨⟨cs, ci, cg⟩, cm, cx, cy, cvx, cvy, chp, cpw, clf⟩) 1 O3 rfl
  dsimp only at r0 r1 r2 r3 r4 r5 r6 r7 r8 r9 r10
  have fX := box_fz (b := ⟨⟨is, ii, ig⟩, m1, v4, v5, v6, v7, v8, v9, blf⟩) 0 O3 rfl
  replace O3 := Lib.hid O3
  go_cut [] (fun wz => Own w wz (cellsA X [nI is, nI ii, nI ig, nI m1, nI v4, nI v5, nI v6, nI v7, nI v8, nI v9, nI v10] :: cellsA Y [nI cs, nI ci, nI cg, nI cm, nI cx, nI cy, nI cvx, nI cvy, nI chp, nI cpw, nI clf] :: cellsA Z [nI 0, nI 0, nI 0, nI 0, nI 0, nI 0, nI 0, nI 0, nI 0, nI 0, nI 0] :: []))
  case first =>
    cases t16 with
    | false =>
      obtain rfl : v10 = blf := by simpa using h10.out
      go_wp2_with fail
      go_meet
      exact O3.out
    | true =>
      obtain rfl : v10 = clf := by simpa using h10.out
      go_wp2_with fail
      go_meet
      exact O3.out.setCellAt 0 10 _ rfl (by simp)
  clear O3 k16 h10
  clear fX q0 q1 q2 q3 q4 q5 q6 q7 q8 q9 q10 r0 r1 r2 r3 r4 r5 r6 r7 r8 r9 r10 hInX hInY
  have O2 := hcut
  obtain ⟨hInX, q0, q1, q2, q3, q4, q5, q6, q7, q8, q9, q10⟩ := box_at (b := ⟨⟨is, ii, ig⟩, m1, v4, v5, v6, v7, v8, v9, v10⟩) 0 O2 rfl
  dsimp only at q0 q1 q2 q3 q4 q5 q6 q7 q8 q9 q10
  obtain ⟨hInY, r0, r1, r2, r3, r4, r5, r6, r7, r8, r9, r10⟩ := box_at (b := ⟨⟨cs, ci, cg⟩, cm, cx, cy, cvx, cvy, chp, cpw, clf⟩) 1 O2 rfl
  dsimp only at r0 r1 r2 r3 r4 r5 r6 r7 r8 r9 r10
  have fX := box_fz (b := ⟨⟨is, ii, ig⟩, m1, v4, v5, v6, v7, v8, v9, v10⟩) 0 O2 rfl
  replace O2 := Lib.hid O2
  clear hcut
  obtain ⟨hInZ, z0, z1, z2, z3, z4, z5, z6, z7, z8, z9, z10⟩ := box_at (b := ⟨⟨0, 0, 0⟩, 0, 0, 0, 0, 0, 0, 0, 0⟩) 2 O2.out rfl
  dsimp only at z0 z1 z2 z3 z4 z5 z6 z7 z8 z9 z10
  have fZ := box_fz (b := ⟨⟨0, 0, 0⟩, 0, 0, 0, 0, 0, 0, 0, 0⟩) 2 O2.out rfl
  go_wp2_with fail
  exact bodyPost_ret (v := BdR.v ⟨⟨is, ii, ig⟩, m1, v4, v5, v6, v7, v8, v9, v10⟩) (by simp [results, Try.results33, go_sem, *]) rfl ⟨by rw [hm1.out], by exact ((((((((((((O2.out.setCellAt 2 0 (nI is) rfl (by simp)).setCellAt 2 1 (nI ii) rfl (by simp)).setCellAt 2 2 (nI ig) rfl (by simp)).setCellAt 2 3 (nI m1) rfl (by simp)).setCellAt 2 4 (nI v4) rfl (by simp)).setCellAt 2 5 (nI v5) rfl (by simp)).setCellAt 2 6 (nI v6) rfl (by simp)).setCellAt 2 7 (nI v7) rfl (by simp)).setCellAt 2 8 (nI v8) rfl (by simp)).setCellAt 2 9 (nI v9) rfl (by simp)).setCellAt 2 10 (nI v10) rfl (by simp))).p⟩
end Go.Proofs.Ytkdagljoiacaaaa
