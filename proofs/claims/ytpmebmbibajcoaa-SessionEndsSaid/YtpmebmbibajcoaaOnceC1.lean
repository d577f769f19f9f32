/- session: the law's comes at the second end: walk. -/
import Derived.Test.YtpmebmbibajcoaaOnceC0
set_option linter.unusedSimpArgs false
set_option linter.unusedVariables false
namespace Go.Proofs.Ytpmebmbibajcoaa
open Go.RowKit
set_option maxRecDepth 100000 in
set_option maxHeartbeats 4000000 in
theorem comes_1B {W wx : World} {P Bd Bo : Nat} {d o : Side} {next : Int} {old : List Old} {l : List Asn} (h : Own W wx (pairB P 1 Bd Bo d o next old :: l)) (p : Post) (hk : okPost p = true) (hle : d.c.yours ≤ p.mine)
    (hd1 : 1 ≤ d.c.first ∧ d.c.first ≤ 1000000000000000) (hd2 : 0 ≤ d.c.last ∧ d.c.last ≤ 1000000000000000) (hd3 : d.c.wait.length ≤ 1000000) (hs : d.said.length ≤ 100000 ∧ d.heard.length ≤ 100000 ∧ d.way.length ≤ 10000000 ∧ o.said.length ≤ 100000 ∧ old.length ≤ 100000) (hsz : ∀ e ∈ comesOld d old p, e.said.length ≤ 1000000)
    (hpre : (comesSide d p).heard <+: SAID o (comesOld d old p) (comesSide d p).c.yours (comesSide d p).c.mine) :
    Calls Try.prog 36 #[chV P, .int .i64 1, p.v] wx (ComesB W P 1 Bd Bo (comesSide d p) o next (comesOld d old p) l) := by
  obtain ⟨i0, hi0, hz0, hz1, hz2⟩ := info_parts infoOld
  replace hi0 := Lib.hid hi0
  replace hz0 := Lib.hid hz0
  replace hz1 := Lib.hid hz1
  replace hz2 := Lib.hid hz2
  obtain ⟨j0, hj0, hy0, hy1, hy2⟩ := info_parts infoStr
  replace hj0 := Lib.hid hj0
  replace hy0 := Lib.hid hy0
  replace hy1 := Lib.hid hy1
  replace hy2 := Lib.hid hy2
  obtain ⟨e0, ea, em, ey, _, eis⟩ := hear_facts d.c p hk hle
  have hDd : comesSide d p = ⟨(hear d.c p).2.2, if (hear d.c p).1.anew then [] else d.said, (if (hear d.c p).1.anew then [] else d.heard) ++ (if (hear d.c p).1.is then [(hear d.c p).1.text] else []), d.way⟩ := rfl
  have hDo : comesOld d old p = if (hear d.c p).1.anew then old ++ [⟨d.c.mine, d.c.yours, d.said⟩] else old := rfl
  generalize comesSide d p = D at *
  generalize comesOld d old p = OL at *
  replace hDd := Lib.hid hDd
  replace hDo := Lib.hid hDo
  replace hpre := Lib.hid hpre
  replace hsz := Lib.hid hsz
  replace hk := Lib.hid hk
  replace hle := Lib.hid hle
  replace ea := Lib.hid ea
  replace em := Lib.hid em
  replace ey := Lib.hid ey
  replace eis := Lib.hid eis
  replace e0 := Lib.hid e0
  have O0 := (h.newCells [.int .i64 p.mine, .int .i64 p.yours, .int .i64 p.ack, .int .i64 p.seq, .string p.text] 32).rot1
  obtain ⟨X, hX⟩ : ∃ X, X = wx.heap.size := ⟨_, rfl⟩
  obtain ⟨wy, hwy⟩ : ∃ wy, wy = wx.alloc (.cells #[.int .i64 p.mine, .int .i64 p.yours, .int .i64 p.ack, .int .i64 p.seq, .string p.text] 32) := ⟨_, rfl⟩
  obtain ⟨x, y, z, xs, O⟩ := pairB_open O0
  obtain ⟨Nd, ⟨A1, c1⟩, ⟨A2, c2⟩, ⟨A3, c3⟩⟩ := x
  obtain ⟨Az, cz⟩ := z
  rw [← hX, ← hwy] at O
  replace h := Lib.hid trivial
  replace hX := Lib.hid hX
  replace hwy := Lib.hid hwy
  clear O0
  obtain ⟨lP, qP, fP⟩ := O.cells 13 rfl
  obtain ⟨lB, qB, fB⟩ := O.cells 8 rfl
  obtain ⟨lX, qX, fX⟩ := O.cells 14 rfl
  have p0 := qP 1 (by simp [two])
  simp [two] at p0
  have b0 := qB 0 (by simp)
  have x0 := qX 0 (by simp)
  have x1 := qX 1 (by simp)
  have x2 := qX 2 (by simp)
  have x3 := qX 3 (by simp)
  have x4 := qX 4 (by simp)
  simp only [List.getElem?_cons_succ, List.getElem?_cons_zero, slV] at b0 x0 x1 x2 x3 x4
  haveI : InW P wy := ⟨lP⟩
  haveI : InW Bd wy := ⟨lB⟩
  haveI : InW X wy := ⟨lX⟩
  clear qP fP qB fB qX fX
  have kE := epochs_O (O.pull 9 rfl)
  dsimp only at kE
  replace kE := Lib.hid kE
  have hxs := Lib.hid (Own.fact 0 O rfl)
  have kH := fun (wz : World) (l' : List Asn) (O' : Own W wz (pairL P 1 Bd Bo d o next old (Nd, (A1, c1), (A2, c2), (A3, c3)) y (Az, cz) xs l')) => hear_O (O'.pull 9 rfl) p ⟨hd1.1, hd1.2⟩ ⟨hd2.1, hd2.2⟩ hd3
  dsimp only at kH
  replace kH := Lib.hid kH
  replace O := Lib.hid O
  go_enter Try.func36, Try.ntmps36
  go_upto_region 1 with fail
  rw [← hwy.out, ← hX.out]
  go_upto_region 3 with (go_at_call 22; (with_reducible refine kE.out.mono ?_); rintro e w' ⟨rfl, ex, rfl⟩)
  have O1 := O.out.plus ex
  obtain ⟨w1, hw1⟩ : ∃ w1, w1 = wy.plus ex := ⟨_, rfl⟩
  have x0' : w1.cell? ⟨X, 0, none⟩ = some (.int .i64 p.mine) := by rw [hw1, World.cell?_plus]; exact x0
  have x1' : w1.cell? ⟨X, 1, none⟩ = some (.int .i64 p.yours) := by rw [hw1, World.cell?_plus]; exact x1
  have x2' : w1.cell? ⟨X, 2, none⟩ = some (.int .i64 p.ack) := by rw [hw1, World.cell?_plus]; exact x2
  have x3' : w1.cell? ⟨X, 3, none⟩ = some (.int .i64 p.seq) := by rw [hw1, World.cell?_plus]; exact x3
  have x4' : w1.cell? ⟨X, 4, none⟩ = some (.string p.text) := by rw [hw1, World.cell?_plus]; exact x4
  have b0' : w1.cell? ⟨Bd, 0, none⟩ = some (chV Nd) := by rw [hw1, World.cell?_plus]; exact b0
  haveI : InW X w1 := ⟨by rw [hw1]; exact InW.lt⟩
  haveI : InW Bd w1 := ⟨by rw [hw1]; exact InW.lt⟩
  rw [← hw1] at O1 ⊢
  clear hw1 x0 x1 x2 x3 x4 b0 p0 kE O lP lB lX
  have kX : ∀ (wz : World) (l' : List Asn) (i : Nat), Own W wz (chanA Nd (hear d.c p).2.2 :: (pairL P 1 Bd Bo d o next old (Nd, (A1, c1), (A2, c2), A3, c3) y (Az, cz) xs l').eraseIdx 9) → l'[i]? = some (cellsA X [.int .i64 p.mine, .int .i64 p.yours, .int .i64 p.ack, .int .i64 p.seq, .string p.text]) →
      X < wz.heap.size ∧ Bd < wz.heap.size ∧ wz.cell? ⟨Bd, 0, none⟩ = some (chV Nd) ∧ wz.cell? ⟨X, 0, none⟩ = some (.int .i64 p.mine) ∧ wz.cell? ⟨X, 1, none⟩ = some (.int .i64 p.yours) ∧ wz.cell? ⟨X, 2, none⟩ = some (.int .i64 p.ack) ∧ wz.cell? ⟨X, 3, none⟩ = some (.int .i64 p.seq) ∧ wz.cell? ⟨X, 4, none⟩ = some (.string p.text) := fun wz l' i O' hi => by
    obtain ⟨lB, qB, fB⟩ := O'.cells 9 rfl
    obtain ⟨lX, qX, fX⟩ := O'.cells (14 + i) (by rw [Nat.add_comm]; exact hi)
    exact ⟨lX, lB, qB 0 (by simp), qX 0 (by simp), qX 1 (by simp), qX 2 (by simp), qX 3 (by simp), qX 4 (by simp)⟩
  replace kX := Lib.hid kX
  generalize hear d.c p = r at *
  obtain ⟨⟨rt, ris, ranew⟩, rerr, rc⟩ := r
  dsimp only at kH kX
  have OB := Lib.hid (pair_tail (O1.newCells [.string ⟨#[]⟩, .bool false, .bool false] 28)).drew
  replace O1 := Lib.hid O1.drew
  go_cut [10, 11] (fun v e wz => ∃ Y, v = .pointer (some ⟨Y, 0, none⟩) ∧ e = .int .i64 rerr ∧ Own W wz (pairL P 1 Bd Bo ⟨rc, d.said, d.heard, d.way⟩ o next old (Nd, (A1, c1), (A2, c2), A3, c3) y (Az, cz) xs (hdA Y ⟨rt, ris, ranew⟩ :: cellsA X [.int .i64 p.mine, .int .i64 p.yours, .int .i64 p.ack, .int .i64 p.seq, .string p.text] :: l)))
  case first =>
    go_region_held3 (fun w' => w'.cell? ⟨Bd, 0, none⟩ = some (chV Nd) ∧ w'.cell? ⟨X, 0, none⟩ = some (.int .i64 p.mine) ∧ w'.cell? ⟨X, 1, none⟩ = some (.int .i64 p.yours) ∧ w'.cell? ⟨X, 2, none⟩ = some (.int .i64 p.ack) ∧ w'.cell? ⟨X, 3, none⟩ = some (.int .i64 p.seq) ∧ w'.cell? ⟨X, 4, none⟩ = some (.string p.text)) (simp [go_sem, *]) (first | (go_at_call 12; (with_reducible refine (kH.out _ _ O1.out).mono ?_); rintro e w4 ⟨rfl, O4⟩; obtain ⟨lX4, lB4, b04, x04, x14, x24, x34, x44⟩ := kX.out _ _ 0 O4 rfl; haveI : InW X w4 := ⟨lX4⟩; haveI : InW Bd w4 := ⟨lB4⟩) | (go_at_call 12; (with_reducible refine (kH.out _ _ OB.out).mono ?_); rintro e w4 ⟨rfl, O4⟩; obtain ⟨lX4, lB4, b04, x04, x14, x24, x34, x44⟩ := kX.out _ _ 1 O4 rfl; haveI : InW X w4 := ⟨lX4⟩; haveI : InW Bd w4 := ⟨lB4⟩; obtain ⟨lY4, qY4, fY4⟩ := O4.cells 14 rfl; haveI : InW w1.heap.size w4 := ⟨lY4⟩; have y04 := qY4 0 (by simp); have y14 := qY4 1 (by simp); have y24 := qY4 2 (by simp); simp only [List.getElem?_cons_succ, List.getElem?_cons_zero] at y04 y14 y24; have g04 := fY4 0; have g14 := fY4 1; have g24 := fY4 2; have hXY : ¬ X = w1.heap.size := fun h => Own.ne 14 (O4.pull 15 rfl) rfl h; have hBY : ¬ Bd = w1.heap.size := fun h => Own.ne 13 (O4.pull 9 rfl) rfl h; have hYX : ¬ w1.heap.size = X := fun h => hXY h.symm; have hYB : ¬ w1.heap.size = Bd := fun h => hBY h.symm; clear qY4 fY4))
    · go_wp2_with fail
      go_meet
      have OA : Own W w4 (pairL P 1 Bd Bo ⟨rc, d.said, d.heard, d.way⟩ o next old (Nd, (A1, c1), (A2, c2), A3, c3) y (Az, cz) xs (cellsA X [.int .i64 p.mine, .int .i64 p.yours, .int .i64 p.ack, .int .i64 p.seq, .string p.text] :: l)) := Own.push (pairL P 1 Bd Bo d o next old (Nd, (A1, c1), (A2, c2), A3, c3) y (Az, cz) xs (cellsA X [.int .i64 p.mine, .int .i64 p.yours, .int .i64 p.ack, .int .i64 p.seq, .string p.text] :: l)) 9 (by simp [pairL, oldsF, sideF]) O4
      exact ⟨w4.heap.size, rfl, rfl, pair_tail (Own.newHd OA ⟨rt, ris, ranew⟩)⟩
    · go_wp2_with fail
      go_meet
      have OA : Own W w4 (pairL P 1 Bd Bo ⟨rc, d.said, d.heard, d.way⟩ o next old (Nd, (A1, c1), (A2, c2), A3, c3) y (Az, cz) xs (cellsA w1.heap.size [.string ⟨#[]⟩, .bool false, .bool false] :: cellsA X [.int .i64 p.mine, .int .i64 p.yours, .int .i64 p.ack, .int .i64 p.seq, .string p.text] :: l)) := Own.push (pairL P 1 Bd Bo d o next old (Nd, (A1, c1), (A2, c2), A3, c3) y (Az, cz) xs (cellsA w1.heap.size [.string ⟨#[]⟩, .bool false, .bool false] :: cellsA X [.int .i64 p.mine, .int .i64 p.yours, .int .i64 p.ack, .int .i64 p.seq, .string p.text] :: l)) 9 (by simp [pairL, oldsF, sideF]) O4
      exact ⟨w1.heap.size, rfl, rfl, ((OA.setCellAt 14 0 (.string rt) rfl (by simp)).setCellAt 14 1 (.bool ris) rfl (by simp)).setCellAt 14 2 (.bool ranew) rfl (by simp)⟩
  clear O1 OB kX kH x0' x1' x2' x3' x4' b0'
  obtain ⟨Y, rfl, rfl, O⟩ := hcut

  have e0' := e0.out
  dsimp only at e0'
  subst e0'
  clear e0
  replace hDd := hDd.out
  replace hDo := hDo.out
  dsimp only at hDd hDo
  replace hDd := Lib.hid hDd
  replace hDo := Lib.hid hDo
  replace em := em.out
  dsimp only at em
  replace em := Lib.hid em
  obtain ⟨lP, qP, fP⟩ := O.cells 13 rfl
  obtain ⟨lB, qB, fB⟩ := O.cells 8 rfl
  obtain ⟨lY, y0, y1, y2, _⟩ := Own.hd 14 O rfl
  dsimp only at y0 y1 y2
  have p3 := qP 3 (by simp [two])
  simp [two] at p3
  have b1 := qB 1 (by simp)
  have b2 := qB 2 (by simp)
  simp only [List.getElem?_cons_succ, List.getElem?_cons_zero, slV] at b1 b2
  have f3 := fP 3
  have fb1 := fB 1
  have fb2 := fB 2
  haveI : InW P wc := ⟨lP⟩
  haveI : InW Bd wc := ⟨lB⟩
  haveI : InW Y wc := ⟨lY⟩
  have hPB : ¬ P = Bd := Own.ne 8 (O.pull 13 rfl) rfl
  have hBP : ¬ Bd = P := fun h => hPB h.symm
  clear qP fP qB fB
  replace O := Lib.hid O
  go_upto_if 44 with (fail)
  go_cut [] (fun wz => ∃ (a1 a2 z' : Ad) (xs' : List Ad), xs'.length = OL.length ∧ Own W wz (pairL P 1 Bd Bo ⟨rc, if ranew then [] else d.said, if ranew then [] else d.heard, d.way⟩ o next OL (Nd, a1, a2, (A3, c3)) y z' xs' (hdA Y ⟨rt, ris, ranew⟩ :: cellsA X [.int .i64 p.mine, .int .i64 p.yours, .int .i64 p.ack, .int .i64 p.seq, .string p.text] :: l)))
  case first =>
    cases ranew with
    | false =>
      have hOL : OL = old := by rw [hDo.out]; rfl
      subst hOL
      go_wp2_with fail
      go_meet
      exact ⟨(A1, c1), (A2, c2), (Az, cz), xs, hxs.out, O.out⟩
    | true =>
      have hOL : OL = old ++ [⟨d.c.mine, d.c.yours, d.said⟩] := by rw [hDo.out]; rfl
      subst hOL
      have OP := Lib.hid ((O.out.pull 1 rfl).alloc (.cells #[.int .i64 d.c.mine, .int .i64 d.c.yours, .slice A1 d.said.length c1] 105)).drew
      go_upto_region 7 with fail
      go_region_law ((go_loud (refine step_append_O (by rfl) _ _ 64 64 (by rfl) 105 i0 _ 3 40 underOlds hi0.out hz0.out hz1.out hz2.out rfl (by rfl) OP.out (xv := .slice (some ⟨wc.heap.size, 0, none⟩) 1 1) (by rfl) (src_oldAt _ wc.heap.size d.c.mine d.c.yours A1 d.said.length c1 (by simp [go_sem]) (by simp [go_sem]) (by simp [go_sem])) (by unfold maxLen; omega) (by omega) ?_); intro A6 c6 w6 O6; obtain ⟨lP6, qP6, fP6⟩ := O6.cells 13 rfl; have p36 := qP6 3 (by simp [two]); simp [two] at p36; have f36 := fP6 3; obtain ⟨lB6, qB6, fB6⟩ := O6.cells 8 rfl; have b16 := qB6 1 (by simp); have b26 := qB6 2 (by simp); simp only [List.getElem?_cons_succ, List.getElem?_cons_zero, slV] at b16 b26; have fb16 := fB6 1; have fb26 := fB6 2; haveI : InW P w6 := ⟨lP6⟩; haveI : InW Bd w6 := ⟨lB6⟩; clear qP6 fP6 qB6 fB6))
      all_goals
        have O7 := Own.push (pairL P 1 Bd Bo ⟨rc, d.said, d.heard, d.way⟩ o next old (Nd, (A1, c1), (A2, c2), A3, c3) y (Az, cz) xs (hdA Y ⟨rt, ris, true⟩ :: cellsA X [.int .i64 p.mine, .int .i64 p.yours, .int .i64 p.ack, .int .i64 p.seq, .string p.text] :: l)) 1 (by simp [pairL, oldsF]) O6
        have O8 := ((O7.setCellAt 13 3 (.slice A6 (old.length + 1) c6) rfl (by simp [two])).setCellAt 8 1 (.slice none 0 0) rfl (by simp)).setCellAt 8 2 (.slice none 0 0) rfl (by simp)
        have O9 := over_old (W := W) (P := P) (k := 1) (Bd := Bd) (Bo := Bo) (o := o) (next := next) (old := old) (Nd := Nd) (y := y) (xs := xs) (A := A6) (c := c6) (l := hdA Y ⟨rt, ris, true⟩ :: cellsA X [.int .i64 p.mine, .int .i64 p.yours, .int .i64 p.ack, .int .i64 p.seq, .string p.text] :: l) (d := ⟨rc, d.said, d.heard, d.way⟩) (a1 := (A1, c1)) (a2 := (A2, c2)) (a3 := (A3, c3)) (e := ⟨d.c.mine, d.c.yours, d.said⟩) hxs.out rfl O8
        go_wp2_with fail
        go_meet
        exact ⟨_, _, _, _, by simp [hxs.out], O9⟩
  clear lP lB lY y0 y1 y2 p3 b1 b2 f3 fb1 fb2 hPB hBP O hxs
  obtain ⟨⟨B1, k1⟩, ⟨B2, k2⟩, z', xs', hxs, O⟩ := hcut
  replace hxs := Lib.hid hxs
  obtain ⟨S1, hS1⟩ : ∃ S, S = (if ranew then [] else d.said) := ⟨_, rfl⟩
  obtain ⟨H1, hH1⟩ : ∃ S, S = (if ranew then [] else d.heard) := ⟨_, rfl⟩
  have hH1l : H1.length ≤ 100000 := by
    rw [hH1]
    split
    · simp
    · exact hs.2.1
  rw [← hS1, ← hH1] at O
  rw [← hS1, ← hH1] at hDd
  replace hS1 := Lib.hid hS1
  replace hH1 := Lib.hid hH1
  obtain ⟨lB, qB, fB⟩ := O.cells 8 rfl
  obtain ⟨lY, y0, y1, y2, _⟩ := Own.hd 14 O rfl
  dsimp only at y0 y1 y2
  have b2 := qB 2 (by simp)
  simp only [List.getElem?_cons_succ, List.getElem?_cons_zero, slV] at b2
  have fb2 := fB 2
  haveI : InW Bd wc := ⟨lB⟩
  haveI : InW Y wc := ⟨lY⟩
  clear qB fB
  replace O := Lib.hid O
  go_upto_if 68 with (fail)
  go_cut [] (fun wz => ∃ (a1 a2 z' : Ad) (xs' : List Ad), xs'.length = OL.length ∧ Own W wz (pairL P 1 Bd Bo D o next OL (Nd, a1, a2, (A3, c3)) y z' xs' (hdA Y ⟨rt, ris, ranew⟩ :: cellsA X [.int .i64 p.mine, .int .i64 p.yours, .int .i64 p.ack, .int .i64 p.seq, .string p.text] :: l)))
  case first =>
    cases ris with
    | false =>
      have hD : D = ⟨rc, S1, H1, d.way⟩ := by rw [hDd.out]; simp
      subst hD
      go_wp2_with fail
      go_meet
      exact ⟨(B1, k1), (B2, k2), z', xs', hxs.out, O.out⟩
    | true =>
      have hD : D = ⟨rc, S1, H1 ++ [rt], d.way⟩ := by rw [hDd.out]; simp
      subst hD
      have OP := Lib.hid ((O.out.pull 11 rfl).alloc (.cells #[.string rt] 9)).drew
      go_upto_region 11 with fail
      go_region_law ((go_loud (refine step_append_O (by rfl) _ _ 22 22 (by rfl) 9 j0 (.string ⟨#[]⟩) 1 16 underStrs hj0.out hy0.out hy1.out hy2.out rfl (by rfl) OP.out (xv := .slice (some ⟨wc.heap.size, 0, none⟩) 1 1) (by rfl) (src_strAt _ wc.heap.size rt (by simp [go_sem])) (by unfold maxLen; first | omega | (simp only; omega)) (by first | omega | (simp only; omega)) ?_); intro A6 c6 w6 O6; obtain ⟨lB6, qB6, fB6⟩ := O6.cells 9 rfl; have b26 := qB6 2 (by simp); simp only [List.getElem?_cons_succ, List.getElem?_cons_zero, slV] at b26; have fb26 := fB6 2; haveI : InW Bd w6 := ⟨lB6⟩; clear qB6 fB6))
      all_goals
        dsimp only at O6
        have O9 := heard_push (W := W) (P := P) (k := 1) (Bd := Bd) (Bo := Bo) (c := rc) (S := S1) (H := H1) (way := d.way) (o := o) (next := next) (old := OL) (Nd := Nd) (a1 := (B1, k1)) (a2 := (B2, k2)) (a3 := (A3, c3)) (y := y) (z := z') (xs := xs') (l := hdA Y ⟨rt, true, ranew⟩ :: cellsA X [.int .i64 p.mine, .int .i64 p.yours, .int .i64 p.ack, .int .i64 p.seq, .string p.text] :: l) O6
        replace O9 := Lib.hid O9
        clear O6 OP O b26 fb26 lB6
        go_wp2_with fail
        go_meet
        exact ⟨(B1, k1), (A6, c6), z', xs', hxs.out, O9.out⟩
  clear lB lY y0 y1 y2 b2 fb2 O hxs
  obtain ⟨⟨B1, k1⟩, ⟨B2, k2⟩, ⟨Az', cz'⟩, xs', hxs, O⟩ := hcut
  have hOl : OL.length ≤ old.length + 1 := by rw [hDo.out]; split <;> simp
  replace hOl := Lib.hid hOl
  have hDc : D.c = rc ∧ D.heard.length ≤ 100001 := by rw [hDd.out]; refine ⟨rfl, ?_⟩; simp only [List.length_append]; split <;> simp only [List.length_cons, List.length_nil] <;> omega
  have hDm : D.c.mine = d.c.mine := by rw [hDc.1]; exact em.out
  have hDh := hDc.2
  have hpr := hpre.out
  rw [hDm] at hpr
  obtain ⟨No, ⟨C1, g1⟩, ⟨C2, g2⟩, ⟨C3, g3⟩⟩ := y
  have rH := sl_strs (O.sl 11 rfl) rfl
  have rS := sl_strs (O.sl 5 rfl) rfl
  dsimp only at rH rS
  obtain ⟨lP, qP, fP⟩ := O.cells 13 rfl
  obtain ⟨lB, qB, fB⟩ := O.cells 8 rfl
  obtain ⟨lo, qo, fo⟩ := O.cells 3 rfl
  have p1 := qP 0 (by simp [two])
  have p3 := qP 3 (by simp [two])
  simp [two] at p1 p3
  simp only [slV] at p3
  have b0 := qB 0 (by simp)
  have b2 := qB 2 (by simp)
  have o0 := qo 0 (by simp)
  have o1 := qo 1 (by simp)
  simp only [List.getElem?_cons_succ, List.getElem?_cons_zero, slV] at b0 b2 o0 o1
  haveI : InW P wc := ⟨lP⟩
  haveI : InW Bd wc := ⟨lB⟩
  haveI : InW Bo wc := ⟨lo⟩
  clear qP fP qB fB qo fo lP lB lo
  have kE := epochs_O (O.pull 9 rfl)
  have kF := fun x => epochs_O ((O.plus x).pull 4 rfl)
  dsimp only at kE kF
  replace kE := Lib.hid kE
  replace kF := Lib.hid kF
  have hfin : ∀ wz, wc.Plus wz → Own W wz (pairB P 1 Bd Bo D o next OL :: l) := fun wz hp => by
    obtain ⟨e, rfl⟩ := hp
    exact pairB_shut (pair_untail (pair_untail (O.plus e)).drop).drop
  replace hfin := Lib.hid hfin
  replace O := Lib.hid O
  clear hDc hDd hDo hS1 hH1 hH1l eis ea ey hpre em
  generalize d.c.mine = m0 at *
  replace hDm := Lib.hid hDm
  go_upto_region 15 with (first | (go_at_call 22; (with_reducible refine kE.out.mono ?_); rintro e w' ⟨rfl, ea, rfl⟩) | (go_at_call 22; (with_reducible refine (kF.out _).mono ?_); rintro e w' ⟨rfl, eb, rfl⟩))
  by_cases hA : o.c.mine = D.c.yours ∧ o.c.yours = m0
  · obtain ⟨hA1, hA2⟩ := hA
    have hb : D.heard <+: o.said := by
      unfold SAID at hpr
      rw [if_pos ⟨hA1, hA2⟩] at hpr
      exact hpr
    have hB := Lib.hid (fun wz (p : wc.Plus wz) => begins_any D.heard o.said B2 C1 k2 g1 wz (by omega) (by omega) (rH.plus p) (rS.plus p) hb)
    have hA1b : (o.c.mine == D.c.yours) = true := by rw [beq_iff_eq]; exact hA1
    have hA2b : (o.c.yours == m0) = true := by rw [beq_iff_eq]; exact hA2
    replace hA1 := Lib.hid hA1
    replace hA2 := Lib.hid hA2
    replace hb := Lib.hid hb
    replace hpr := Lib.hid hpr
    go_upto_region 16 with fail
    refine wp_region_grow (by kernel_rfl) (by kernel_rfl) ?_
    repeat (go_big_quiet_step ((go_at_call 25; exact Calls.plus_of (hB.out _ (by (repeat (first | exact Plus.refl _ | apply Plus.plus | apply Plus.alloc | apply Plus.drew)))))))
    refine wpQuiet_nil ?_
    intro ex
    go_wp2_with fail
    go_ret
    exact ⟨rfl, hfin.out _ (by (repeat (first | exact Plus.refl _ | apply Plus.plus | apply Plus.alloc | apply Plus.drew)))⟩
  · obtain ⟨wq, hq⟩ : ∃ wq, wq = wc := ⟨_, rfl⟩
    subst hq
    have hpA := Lib.hid (show wq.Plus ((wq.plus ea).plus eb) by (repeat (first | exact Plus.refl _ | apply Plus.plus | apply Plus.alloc | apply Plus.drew)))
    obtain ⟨wd, hwd⟩ : ∃ wd, wd = (wq.plus ea).plus eb := ⟨_, rfl⟩
    rw [← hwd] at hpA ⊢
    replace hwd := Lib.hid hwd
    go_cut [110] (fun t wz => t = .bool false ∧ wz = wd)
    case first =>
      by_cases h1 : o.c.mine = D.c.yours
      · have h2 : ¬ o.c.yours = m0 := fun h => hA ⟨h1, h⟩
        have h1b : (o.c.mine == D.c.yours) = true := by rw [beq_iff_eq]; exact h1
        have h2b : (o.c.yours == m0) = false := by rw [beq_eq_false_iff_ne]; exact h2
        replace h1 := Lib.hid h1
        replace h2 := Lib.hid h2
        replace hA := Lib.hid hA
        replace hpr := Lib.hid hpr
        go_wp2_with fail
        go_meet
        exact ⟨rfl, rfl⟩
      · have h1b : (o.c.mine == D.c.yours) = false := by rw [beq_eq_false_iff_ne]; exact h1
        replace h1 := Lib.hid h1
        replace hA := Lib.hid hA
        replace hpr := Lib.hid hpr
        go_wp2_with fail
        go_meet
        exact ⟨rfl, rfl⟩
    obtain ⟨rfl, rfl⟩ := hcut
    have hat : ∀ wz k, wq.Plus wz → k < OL.length → ∃ g o' e x, Az' = some ⟨g, o', none⟩ ∧ OL[k]? = some e ∧ g < wz.heap.size ∧ wz.cell? ⟨g, o' + k * 3, none⟩ = some (.int .i64 e.mine) ∧ wz.cell? ⟨g, o' + k * 3 + 1, none⟩ = some (.int .i64 e.yours) ∧ wz.cell? ⟨g, o' + k * 3 + 2, none⟩ = some (slV x e.said.length) ∧ RowsAt wz x.1 1 e.said.length (strAt e.said) := fun wz k hp hk => by
      obtain ⟨e, rfl⟩ := hp
      have O' := O.out.plus e
      have he : OL[k]? = some OL[k] := List.getElem?_eq_getElem hk
      have hx : xs'[k]? = some (xs'[k]'(by omega)) := List.getElem?_eq_getElem (by omega)
      obtain ⟨g, o', rfl, hg, hc⟩ := (O'.sl 1 rfl).cellsOf (by omega)
      exact ⟨g, o', OL[k], _, rfl, he, hg, (hc (k * 3) (by omega)).trans (oldCs_get OL xs' k _ _ 0 he hx (by omega)), (hc (k * 3 + 1) (by omega)).trans (oldCs_get OL xs' k _ _ 1 he hx (by omega)),
        (hc (k * 3 + 2) (by omega)).trans (oldCs_get OL xs' k _ _ 2 he hx (by omega)), old_rows O' (i := 2) rfl he hx⟩
    replace hat := Lib.hid hat
    replace rH := Lib.hid rH
    replace rS := Lib.hid rS
    replace hA := Lib.hid hA
    replace hpr := Lib.hid hpr
    have hOLl : OL.length ≤ 200000 := by have := hOl.out; omega
    go_upto_block 0 with fail
    go_cut [] (fun wz => (∀ j e', j < OL.length → OL[j]? = some e' → ¬ (e'.mine = D.c.yours ∧ e'.yours = m0)) ∧ wq.Plus wz)
    case first =>
      go_wp2_with fail
      go_loopw [15] (fun i wr => ∃ k : Nat, k ≤ OL.length ∧ i = .int .i64 k ∧ (∀ j e', j < k → OL[j]? = some e' → ¬ (e'.mine = D.c.yours ∧ e'.yours = m0)) ∧ wq.Plus wr) (fun i _ => OL.length - (intOf i).toNat)
      case atStart => exact ⟨0, Nat.zero_le _, rfl, (fun j e' hj => absurd hj (Nat.not_lt_zero _)), hpA.out⟩
      case round =>
        obtain ⟨k, hk, rfl, hn, ec, rfl⟩ := hrel
        by_cases hlt : k < OL.length
        · obtain ⟨g, o', e, ⟨xa, xc⟩, rfl, he, hg, d0, d1, d2, hrw⟩ := hat.out (wq.plus ec) k (by (repeat (first | exact Plus.refl _ | apply Plus.plus | apply Plus.alloc | apply Plus.drew))) hlt
          haveI : InW g (wq.plus ec) := ⟨hg⟩
          simp only [slV] at d2
          have hnx := fun (hm : ¬ (e.mine = D.c.yours ∧ e.yours = m0)) => (fun j e' (hj : j < k + 1) (h : OL[j]? = some e') => by
            rcases Nat.lt_or_ge j k with hjk | hjk
            · exact hn j e' hjk h
            · obtain rfl : j = k := by omega
              rw [he] at h
              cases h
              exact hm : ∀ j e', j < k + 1 → OL[j]? = some e' → ¬ (e'.mine = D.c.yours ∧ e'.yours = m0))
          have hsa := fun (hm : e.mine = D.c.yours ∧ e.yours = m0) => said_at hA.out he hm hn
          have hlti : (k : Int) < OL.length := by omega
          replace he := Lib.hid he
          replace hn := Lib.hid hn
          by_cases h1 : e.mine = D.c.yours
          · have h1b : (e.mine == D.c.yours) = true := by rw [beq_iff_eq]; exact h1
            by_cases h2 : e.yours = m0
            · have h2b : (e.yours == m0) = true := by rw [beq_iff_eq]; exact h2
              have hb : D.heard <+: e.said := by
                have := hpr.out
                rw [hsa ⟨h1, h2⟩] at this
                exact this
              have hel : e.said.length ≤ 1000000 := hsz.out e (List.mem_of_getElem? he.out)
              have hB := Lib.hid (fun wz (p : (wq.plus ec).Plus wz) => begins_any D.heard e.said B2 xa k2 xc wz (by omega) hel ((rH.out.plus (Plus.plus (Plus.refl wq) ec)).plus p) (hrw.plus p) hb)
              clear hsa hnx
              replace h1 := Lib.hid h1
              replace h2 := Lib.hid h2
              replace hb := Lib.hid hb
              replace hrw := Lib.hid hrw
              go_upto_region 21 with fail
              refine wp_region_grow (by kernel_rfl) (by kernel_rfl) ?_
              repeat (go_big_quiet_step ((go_at_call 25; exact Calls.plus_of (hB.out _ (by (repeat (first | exact Plus.refl _ | apply Plus.plus | apply Plus.alloc | apply Plus.drew)))))))
              refine wpQuiet_nil ?_
              intro ex
              go_wp2_with fail
              go_ret
              exact ⟨rfl, hfin.out _ (by (repeat (first | exact Plus.refl _ | apply Plus.plus | apply Plus.alloc | apply Plus.drew)))⟩
            · have h2b : (e.yours == m0) = false := by rw [beq_eq_false_iff_ne]; exact h2
              have hn2 := Lib.hid (hnx (fun h => h2 h.2))
              clear hsa hnx
              replace h1 := Lib.hid h1
              replace h2 := Lib.hid h2
              replace hrw := Lib.hid hrw
              go_wp2_with fail
              go_roundw
              case rel => exact ⟨k + 1, hlt, by go_num, hn2.out, by (repeat (first | exact Plus.refl _ | apply Plus.plus | apply Plus.alloc | apply Plus.drew))⟩
              case measure => simp [intOf]; omega
          · have h1b : (e.mine == D.c.yours) = false := by rw [beq_eq_false_iff_ne]; exact h1
            have hn2 := Lib.hid (hnx (fun h => h1 h.1))
            clear hsa hnx
            replace h1 := Lib.hid h1
            replace hrw := Lib.hid hrw
            go_wp2_with fail
            go_roundw
            case rel => exact ⟨k + 1, hlt, by go_num, hn2.out, by (repeat (first | exact Plus.refl _ | apply Plus.plus | apply Plus.alloc | apply Plus.drew))⟩
            case measure => simp [intOf]; omega
        · obtain rfl : k = OL.length := by omega
          replace hn := Lib.hid hn
          go_wp2_with fail
          go_meet
          exact ⟨hn.out, by (repeat (first | exact Plus.refl _ | apply Plus.plus | apply Plus.alloc | apply Plus.drew))⟩
    obtain ⟨hn, hpl⟩ := hcut
    have hH0 : D.heard = [] := by
      have := hpr.out
      rw [said_none hA.out hn] at this
      exact List.prefix_nil.1 this
    clear hn
    have hfz := Lib.hid (hfin.out _ hpl)
    obtain ⟨ez, rfl⟩ := hpl
    rw [hH0, List.length_nil] at b2
    replace hH0 := Lib.hid hH0
    go_wp2_with fail
    go_ret
    exact ⟨rfl, hfz.out⟩

theorem comes_1 {W wx : World} {P : Nat} {d o : Side} {next : Int} {old : List Old} {l : List Asn} (h : Own W wx (pairA P 1 d o next old :: l)) (p : Post) (hk : okPost p = true) (hle : d.c.yours ≤ p.mine)
    (hd1 : 1 ≤ d.c.first ∧ d.c.first ≤ 1000000000000000) (hd2 : 0 ≤ d.c.last ∧ d.c.last ≤ 1000000000000000) (hd3 : d.c.wait.length ≤ 1000000) (hs : d.said.length ≤ 100000 ∧ d.heard.length ≤ 100000 ∧ d.way.length ≤ 10000000 ∧ o.said.length ≤ 100000 ∧ old.length ≤ 100000) (hsz : ∀ e ∈ comesOld d old p, e.said.length ≤ 1000000)
    (hpre : (comesSide d p).heard <+: SAID o (comesOld d old p) (comesSide d p).c.yours (comesSide d p).c.mine) :
    Calls Try.prog 36 #[chV P, .int .i64 1, p.v] wx (ComesO W P 1 (comesSide d p) o next (comesOld d old p) l) := by
  obtain ⟨Bd, Bo, h⟩ := pairA_B h
  refine (comes_1B h p hk hle hd1 hd2 hd3 hs hsz hpre).mono ?_
  rintro e w' ⟨rfl, O'⟩
  exact ⟨rfl, pairB_A O'⟩
set_option maxRecDepth 100000 in
set_option maxHeartbeats 4000000 in
theorem comes_old1B {W wx : World} {P Bd Bo : Nat} {d o : Side} {next : Int} {old : List Old} {l : List Asn} (h : Own W wx (pairB P 1 Bd Bo d o next old :: l)) (p : Post) (hk : okPost p = true) (hlt : p.mine < d.c.yours)
    (hd1 : 1 ≤ d.c.first ∧ d.c.first ≤ 1000000000000000) (hd2 : 0 ≤ d.c.last ∧ d.c.last ≤ 1000000000000000) (hd3 : d.c.wait.length ≤ 1000000) :
    Calls Try.prog 36 #[chV P, .int .i64 1, p.v] wx (ComesB W P 1 Bd Bo d o next old l) := by
  have e0 := Lib.hid (hear_old d.c p hk hlt)
  have hk := Lib.hid trivial
  replace hlt := Lib.hid hlt
  have O0 := (h.newCells [.int .i64 p.mine, .int .i64 p.yours, .int .i64 p.ack, .int .i64 p.seq, .string p.text] 32).rot1
  obtain ⟨X, hX⟩ : ∃ X, X = wx.heap.size := ⟨_, rfl⟩
  obtain ⟨wy, hwy⟩ : ∃ wy, wy = wx.alloc (.cells #[.int .i64 p.mine, .int .i64 p.yours, .int .i64 p.ack, .int .i64 p.seq, .string p.text] 32) := ⟨_, rfl⟩
  obtain ⟨x, y, z, xs, O⟩ := pairB_open O0
  obtain ⟨Nd, ⟨A1, c1⟩, ⟨A2, c2⟩, ⟨A3, c3⟩⟩ := x
  obtain ⟨Az, cz⟩ := z
  rw [← hX, ← hwy] at O
  replace h := Lib.hid trivial
  replace hX := Lib.hid hX
  replace hwy := Lib.hid hwy
  clear O0
  obtain ⟨lP, qP, fP⟩ := O.cells 13 rfl
  obtain ⟨lB, qB, fB⟩ := O.cells 8 rfl
  obtain ⟨lX, qX, fX⟩ := O.cells 14 rfl
  have p0 := qP 1 (by simp [two])
  simp [two] at p0
  have b0 := qB 0 (by simp)
  have x0 := qX 0 (by simp)
  have x1 := qX 1 (by simp)
  have x2 := qX 2 (by simp)
  have x3 := qX 3 (by simp)
  have x4 := qX 4 (by simp)
  simp only [List.getElem?_cons_succ, List.getElem?_cons_zero, slV] at b0 x0 x1 x2 x3 x4
  haveI : InW P wy := ⟨lP⟩
  haveI : InW Bd wy := ⟨lB⟩
  haveI : InW X wy := ⟨lX⟩
  clear qP fP qB fB qX fX
  have kE := epochs_O (O.pull 9 rfl)
  dsimp only at kE
  replace kE := Lib.hid kE
  have hxs := Lib.hid (Own.fact 0 O rfl)
  have kH := fun (wz : World) (l' : List Asn) (O' : Own W wz (pairL P 1 Bd Bo d o next old (Nd, (A1, c1), (A2, c2), (A3, c3)) y (Az, cz) xs l')) => hear_O (O'.pull 9 rfl) p ⟨hd1.1, hd1.2⟩ ⟨hd2.1, hd2.2⟩ hd3
  dsimp only at kH
  replace kH := Lib.hid kH
  replace O := Lib.hid O
  go_enter Try.func36, Try.ntmps36
  go_upto_region 1 with fail
  rw [← hwy.out, ← hX.out]
  go_upto_region 3 with (go_at_call 22; (with_reducible refine kE.out.mono ?_); rintro e w' ⟨rfl, ex, rfl⟩)
  have O1 := O.out.plus ex
  obtain ⟨w1, hw1⟩ : ∃ w1, w1 = wy.plus ex := ⟨_, rfl⟩
  have x0' : w1.cell? ⟨X, 0, none⟩ = some (.int .i64 p.mine) := by rw [hw1, World.cell?_plus]; exact x0
  have x1' : w1.cell? ⟨X, 1, none⟩ = some (.int .i64 p.yours) := by rw [hw1, World.cell?_plus]; exact x1
  have x2' : w1.cell? ⟨X, 2, none⟩ = some (.int .i64 p.ack) := by rw [hw1, World.cell?_plus]; exact x2
  have x3' : w1.cell? ⟨X, 3, none⟩ = some (.int .i64 p.seq) := by rw [hw1, World.cell?_plus]; exact x3
  have x4' : w1.cell? ⟨X, 4, none⟩ = some (.string p.text) := by rw [hw1, World.cell?_plus]; exact x4
  have b0' : w1.cell? ⟨Bd, 0, none⟩ = some (chV Nd) := by rw [hw1, World.cell?_plus]; exact b0
  haveI : InW X w1 := ⟨by rw [hw1]; exact InW.lt⟩
  haveI : InW Bd w1 := ⟨by rw [hw1]; exact InW.lt⟩
  rw [← hw1] at O1 ⊢
  clear hw1 x0 x1 x2 x3 x4 b0 p0 kE O lP lB lX
  have kX : ∀ (wz : World) (l' : List Asn) (i : Nat), Own W wz (chanA Nd (hear d.c p).2.2 :: (pairL P 1 Bd Bo d o next old (Nd, (A1, c1), (A2, c2), A3, c3) y (Az, cz) xs l').eraseIdx 9) → l'[i]? = some (cellsA X [.int .i64 p.mine, .int .i64 p.yours, .int .i64 p.ack, .int .i64 p.seq, .string p.text]) →
      X < wz.heap.size ∧ Bd < wz.heap.size ∧ wz.cell? ⟨Bd, 0, none⟩ = some (chV Nd) ∧ wz.cell? ⟨X, 0, none⟩ = some (.int .i64 p.mine) ∧ wz.cell? ⟨X, 1, none⟩ = some (.int .i64 p.yours) ∧ wz.cell? ⟨X, 2, none⟩ = some (.int .i64 p.ack) ∧ wz.cell? ⟨X, 3, none⟩ = some (.int .i64 p.seq) ∧ wz.cell? ⟨X, 4, none⟩ = some (.string p.text) := fun wz l' i O' hi => by
    obtain ⟨lB, qB, fB⟩ := O'.cells 9 rfl
    obtain ⟨lX, qX, fX⟩ := O'.cells (14 + i) (by rw [Nat.add_comm]; exact hi)
    exact ⟨lX, lB, qB 0 (by simp), qX 0 (by simp), qX 1 (by simp), qX 2 (by simp), qX 3 (by simp), qX 4 (by simp)⟩
  replace kX := Lib.hid kX
  generalize hear d.c p = r at *
  obtain ⟨⟨rt, ris, ranew⟩, rerr, rc⟩ := r
  dsimp only at kH kX
  have OB := Lib.hid (pair_tail (O1.newCells [.string ⟨#[]⟩, .bool false, .bool false] 28)).drew
  replace O1 := Lib.hid O1.drew
  go_cut [10, 11] (fun v e wz => ∃ Y, v = .pointer (some ⟨Y, 0, none⟩) ∧ e = .int .i64 rerr ∧ Own W wz (pairL P 1 Bd Bo ⟨rc, d.said, d.heard, d.way⟩ o next old (Nd, (A1, c1), (A2, c2), A3, c3) y (Az, cz) xs (hdA Y ⟨rt, ris, ranew⟩ :: cellsA X [.int .i64 p.mine, .int .i64 p.yours, .int .i64 p.ack, .int .i64 p.seq, .string p.text] :: l)))
  case first =>
    go_region_held3 (fun w' => w'.cell? ⟨Bd, 0, none⟩ = some (chV Nd) ∧ w'.cell? ⟨X, 0, none⟩ = some (.int .i64 p.mine) ∧ w'.cell? ⟨X, 1, none⟩ = some (.int .i64 p.yours) ∧ w'.cell? ⟨X, 2, none⟩ = some (.int .i64 p.ack) ∧ w'.cell? ⟨X, 3, none⟩ = some (.int .i64 p.seq) ∧ w'.cell? ⟨X, 4, none⟩ = some (.string p.text)) (simp [go_sem, *]) (first | (go_at_call 12; (with_reducible refine (kH.out _ _ O1.out).mono ?_); rintro e w4 ⟨rfl, O4⟩; obtain ⟨lX4, lB4, b04, x04, x14, x24, x34, x44⟩ := kX.out _ _ 0 O4 rfl; haveI : InW X w4 := ⟨lX4⟩; haveI : InW Bd w4 := ⟨lB4⟩) | (go_at_call 12; (with_reducible refine (kH.out _ _ OB.out).mono ?_); rintro e w4 ⟨rfl, O4⟩; obtain ⟨lX4, lB4, b04, x04, x14, x24, x34, x44⟩ := kX.out _ _ 1 O4 rfl; haveI : InW X w4 := ⟨lX4⟩; haveI : InW Bd w4 := ⟨lB4⟩; obtain ⟨lY4, qY4, fY4⟩ := O4.cells 14 rfl; haveI : InW w1.heap.size w4 := ⟨lY4⟩; have y04 := qY4 0 (by simp); have y14 := qY4 1 (by simp); have y24 := qY4 2 (by simp); simp only [List.getElem?_cons_succ, List.getElem?_cons_zero] at y04 y14 y24; have g04 := fY4 0; have g14 := fY4 1; have g24 := fY4 2; have hXY : ¬ X = w1.heap.size := fun h => Own.ne 14 (O4.pull 15 rfl) rfl h; have hBY : ¬ Bd = w1.heap.size := fun h => Own.ne 13 (O4.pull 9 rfl) rfl h; have hYX : ¬ w1.heap.size = X := fun h => hXY h.symm; have hYB : ¬ w1.heap.size = Bd := fun h => hBY h.symm; clear qY4 fY4))
    · go_wp2_with fail
      go_meet
      have OA : Own W w4 (pairL P 1 Bd Bo ⟨rc, d.said, d.heard, d.way⟩ o next old (Nd, (A1, c1), (A2, c2), A3, c3) y (Az, cz) xs (cellsA X [.int .i64 p.mine, .int .i64 p.yours, .int .i64 p.ack, .int .i64 p.seq, .string p.text] :: l)) := Own.push (pairL P 1 Bd Bo d o next old (Nd, (A1, c1), (A2, c2), A3, c3) y (Az, cz) xs (cellsA X [.int .i64 p.mine, .int .i64 p.yours, .int .i64 p.ack, .int .i64 p.seq, .string p.text] :: l)) 9 (by simp [pairL, oldsF, sideF]) O4
      exact ⟨w4.heap.size, rfl, rfl, pair_tail (Own.newHd OA ⟨rt, ris, ranew⟩)⟩
    · go_wp2_with fail
      go_meet
      have OA : Own W w4 (pairL P 1 Bd Bo ⟨rc, d.said, d.heard, d.way⟩ o next old (Nd, (A1, c1), (A2, c2), A3, c3) y (Az, cz) xs (cellsA w1.heap.size [.string ⟨#[]⟩, .bool false, .bool false] :: cellsA X [.int .i64 p.mine, .int .i64 p.yours, .int .i64 p.ack, .int .i64 p.seq, .string p.text] :: l)) := Own.push (pairL P 1 Bd Bo d o next old (Nd, (A1, c1), (A2, c2), A3, c3) y (Az, cz) xs (cellsA w1.heap.size [.string ⟨#[]⟩, .bool false, .bool false] :: cellsA X [.int .i64 p.mine, .int .i64 p.yours, .int .i64 p.ack, .int .i64 p.seq, .string p.text] :: l)) 9 (by simp [pairL, oldsF, sideF]) O4
      exact ⟨w1.heap.size, rfl, rfl, ((OA.setCellAt 14 0 (.string rt) rfl (by simp)).setCellAt 14 1 (.bool ris) rfl (by simp)).setCellAt 14 2 (.bool ranew) rfl (by simp)⟩
  clear O1 OB kX kH x0' x1' x2' x3' x4' b0'
  obtain ⟨Y, rfl, rfl, O⟩ := hcut

  have e1 := e0.out
  cases e1
  clear e0
  replace O := Lib.hid (pairB_shut (pair_untail (pair_untail O).drop).drop)
  go_wp2_with fail
  go_ret
  exact ⟨rfl, O.out⟩
theorem comes_old1 {W wx : World} {P : Nat} {d o : Side} {next : Int} {old : List Old} {l : List Asn} (h : Own W wx (pairA P 1 d o next old :: l)) (p : Post) (hk : okPost p = true) (hlt : p.mine < d.c.yours)
    (hd1 : 1 ≤ d.c.first ∧ d.c.first ≤ 1000000000000000) (hd2 : 0 ≤ d.c.last ∧ d.c.last ≤ 1000000000000000) (hd3 : d.c.wait.length ≤ 1000000) :
    Calls Try.prog 36 #[chV P, .int .i64 1, p.v] wx (ComesO W P 1 d o next old l) := by
  obtain ⟨Bd, Bo, h⟩ := pairA_B h
  refine (comes_old1B h p hk hlt hd1 hd2 hd3).mono ?_
  rintro e w' ⟨rfl, O'⟩
  exact ⟨rfl, pairB_A O'⟩
end Go.Proofs.Ytpmebmbibajcoaa
