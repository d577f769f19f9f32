/- session: the law's turn of the first end: walk. -/
import Derived.Test.YtpmebmbibajcoaaOnceD0
set_option linter.unusedSimpArgs false
set_option linter.unusedVariables false
namespace Go.Proofs.Ytpmebmbibajcoaa
open Go.RowKit
set_option maxRecDepth 100000 in
set_option maxHeartbeats 4000000 in
theorem turn_0 {W wx : World} {P T : Nat} {d o : Side} {next : Int} {old : List Old} {l : List Asn} (h : Own W wx (pairA P 0 d o next old :: l)) (hI : InvL T next d o old) (hT : T ≤ 500) (kind en K : Int) (t : ByteArray) (hk : 0 ≤ kind ∧ kind ≤ 10) (he : en % 2 = 0)
    (hK : -9223372036854775808 ≤ K ∧ K ≤ 9223372036854775807) :
    Calls Try.prog 35 #[chV P, .agg #[.int .i64 kind, .int .i64 en, .int .i64 K, .string t]] wx (TurnO W P 0 (T + 1) l) := by
  obtain ⟨j0, hj0, hy0, hy1, hy2⟩ := info_parts infoStr
  replace hj0 := Lib.hid hj0
  replace hy0 := Lib.hid hy0
  replace hy1 := Lib.hid hy1
  replace hy2 := Lib.hid hy2
  obtain ⟨i0, hi0, hz0, hz1, hz2⟩ := info_parts infoPost
  replace hi0 := Lib.hid hi0
  replace hz0 := Lib.hid hz0
  replace hz1 := Lib.hid hz1
  replace hz2 := Lib.hid hz2
  have hand : bits .and .i64 en 1 = 0 := by rw [i64_and1, he]
  have O0 := (h.newCells [.int .i64 kind, .int .i64 en, .int .i64 K, .string t] 90).rot1
  obtain ⟨X, hX⟩ : ∃ X, X = wx.heap.size := ⟨_, rfl⟩
  obtain ⟨wy, hwy⟩ : ∃ wy, wy = wx.alloc (.cells #[.int .i64 kind, .int .i64 en, .int .i64 K, .string t] 90) := ⟨_, rfl⟩
  rw [← hX, ← hwy] at O0
  obtain ⟨Bd, Bo, x, y, z, xs, O⟩ := pair_open O0
  obtain ⟨Nd, ⟨A1, c1⟩, ⟨A2, c2⟩, ⟨A3, c3⟩⟩ := x
  obtain ⟨No, ⟨C1, g1⟩, ⟨C2, g2⟩, ⟨C3, g3⟩⟩ := y
  obtain ⟨Az, cz⟩ := z
  replace h := Lib.hid trivial
  replace hX := Lib.hid hX
  replace hwy := Lib.hid hwy
  replace O0 := Lib.hid O0
  obtain ⟨lP, qP, fP⟩ := O.cells 13 rfl
  obtain ⟨lB, qB, fB⟩ := O.cells 8 rfl
  obtain ⟨lo, qo, fo⟩ := O.cells 3 rfl
  obtain ⟨lX, qX, fX⟩ := O.cells 14 rfl
  have p0 := qP 0 (by simp [two])
  have p1 := qP 1 (by simp [two])
  simp [two] at p0 p1
  have b0 := qB 0 (by simp)
  have b1 := qB 1 (by simp)
  have b3 := qB 3 (by simp)
  have o3 := qo 3 (by simp)
  have x0 := qX 0 (by simp)
  have x1 := qX 1 (by simp)
  have x2 := qX 2 (by simp)
  have x3 := qX 3 (by simp)
  simp only [List.getElem?_cons_succ, List.getElem?_cons_zero, slV] at b0 b1 b3 o3 x0 x1 x2 x3
  have fb1 := fB 1
  have fb3 := fB 3
  have fo3 := fo 3
  haveI : InW P wy := ⟨lP⟩
  haveI : InW Bd wy := ⟨lB⟩
  haveI : InW Bo wy := ⟨lo⟩
  haveI : InW X wy := ⟨lX⟩
  clear qP fP qB fB qo fo qX fX
  replace O := Lib.hid O
  go_enter Try.func35, Try.ntmps35
  go_upto_region 1 with fail
  rw [← hwy.out, ← hX.out]
  by_cases hk2 : kind < 2
  · have hrow := (one_row wy t).plus (Plus.drew (Plus.refl _))
    have kS := say_O (((O.out.pull 9 rfl).alloc (.cells #[.string t] 9)).drew) (some ⟨wy.heap.size, 0, none⟩) 1 [t] (by simp) (by have := hI.i.d1; obtain ⟨a, ha, _⟩ := this.wait; have h5 := this.len; rw [ha, List.length_append] at h5; omega) hrow
    rw [show [t].length = 1 from rfl] at kS
    have hE : sayC d.c [t] = if sayE d.c [t] = 0 then { d.c with wait := d.c.wait ++ [t] } else d.c := rfl
    have hIn := hI.say t
    have hSd : saySide d t = ⟨sayC d.c [t], if sayE d.c [t] = 0 then d.said ++ [t] else d.said, d.heard, d.way⟩ := rfl
    rw [hSd] at hIn
    have hsl : d.said.length ≤ 1000 := by have := hI.i.d1.len; omega
    generalize sayC d.c [t] = C at *
    generalize sayE d.c [t] = E at *
    have kX : ∀ (wz : World), Own W wz (chanA Nd C :: (pairL P 0 Bd Bo d o next old (Nd, (A1, c1), (A2, c2), A3, c3) (No, (C1, g1), (C2, g2), C3, g3) (Az, cz) xs (cellsA X [.int .i64 kind, .int .i64 en, .int .i64 K, .string t] :: l)).eraseIdx 9) →
        X < wz.heap.size ∧ Bd < wz.heap.size ∧ wz.cell? ⟨Bd, 0, none⟩ = some (chV Nd) ∧ wz.cell? ⟨X, 3, none⟩ = some (.string t) := fun wz O' => by
      obtain ⟨lB, qB, fB⟩ := O'.cells 9 rfl
      obtain ⟨lX, qX, fX⟩ := O'.cells 14 rfl
      exact ⟨lX, lB, qB 0 (by simp), qX 3 (by simp)⟩
    replace kX := Lib.hid kX
    replace kS := Lib.hid kS
    replace hIn := Lib.hid hIn
    clear hE hSd hrow
    go_upto_region 4 with fail
    go_cut [31] (fun v wz => v = .bool (decide (E = 0)) ∧ Own W wz (pairL P 0 Bd Bo ⟨C, d.said, d.heard, d.way⟩ o next old (Nd, (A1, c1), (A2, c2), A3, c3) (No, (C1, g1), (C2, g2), C3, g3) (Az, cz) xs (cellsA X [.int .i64 kind, .int .i64 en, .int .i64 K, .string t] :: l)))
    case first =>
      go_region_held3 (fun w' => w'.cell? ⟨Bd, 0, none⟩ = some (chV Nd) ∧ w'.cell? ⟨X, 3, none⟩ = some (.string t)) (simp [go_sem, *]) ((go_at_call 13; (with_reducible refine (kS.out).mono ?_); rintro e w4 ⟨rfl, O4⟩; obtain ⟨lX4, lB4, b04, x34⟩ := kX.out _ O4; haveI : InW X w4 := ⟨lX4⟩; haveI : InW Bd w4 := ⟨lB4⟩))
      all_goals
        have O5 := Own.push (pairL P 0 Bd Bo d o next old (Nd, (A1, c1), (A2, c2), A3, c3) (No, (C1, g1), (C2, g2), C3, g3) (Az, cz) xs (cellsA X [.int .i64 kind, .int .i64 en, .int .i64 K, .string t] :: l)) 9 (by simp [pairL, oldsF, sideF]) O4
        replace O5 := Lib.hid O5
        clear O4
        go_wp2_with fail
        go_meet
        exact ⟨by rw [Bool.beq_eq_decide_eq], O5.out⟩
    clear kS kX p0 p1 b0 b1 b3 o3 x0 x1 x2 x3 fb1 fb3 fo3 lP lB lo lX O
    obtain ⟨rfl, O⟩ := hcut
    obtain ⟨lB, qB, fB⟩ := O.cells 8 rfl
    obtain ⟨lX, qX, fX⟩ := O.cells 14 rfl
    have b1 := qB 1 (by simp)
    have x3 := qX 3 (by simp)
    simp only [List.getElem?_cons_succ, List.getElem?_cons_zero, slV] at b1 x3
    have fb1 := fB 1
    haveI : InW Bd wc := ⟨lB⟩
    haveI : InW X wc := ⟨lX⟩
    clear qB fB qX fX
    by_cases hE0 : E = 0
    · subst hE0
      have OP := Lib.hid ((O.pull 10 rfl).alloc (.cells #[.string t] 9)).drew
      replace O := Lib.hid O
      have hIn' := hIn.out
      rw [if_pos rfl] at hIn'
      replace hIn' := Lib.hid hIn'
      go_upto_region 5 with fail
      go_region_law ((go_loud (refine step_append_O (by rfl) _ _ 22 22 (by rfl) 9 j0 (.string ⟨#[]⟩) 1 16 underStrs hj0.out hy0.out hy1.out hy2.out rfl (by rfl) OP.out (xv := .slice (some ⟨wc.heap.size, 0, none⟩) 1 1) (by rfl) (src_strAt _ wc.heap.size t (by simp [go_sem])) (by unfold maxLen; first | omega | (simp only; omega)) (by first | omega | (simp only; omega)) ?_); intro A6 c6 w6 O6; obtain ⟨lB6, qB6, fB6⟩ := O6.cells 9 rfl; have b16 := qB6 1 (by simp); simp only [List.getElem?_cons_succ, List.getElem?_cons_zero, slV] at b16; have fb16 := fB6 1; haveI : InW Bd w6 := ⟨lB6⟩; clear qB6 fB6))
      all_goals
        dsimp only at O6
        have O9 := said_push (W := W) (P := P) (k := 0) (Bd := Bd) (Bo := Bo) (c := C) (S := d.said) (H := d.heard) (way := d.way) (o := o) (next := next) (old := old) (Nd := Nd) (a1 := (A1, c1)) (a2 := (A2, c2)) (a3 := (A3, c3)) (y := (No, (C1, g1), (C2, g2), (C3, g3))) (z := (Az, cz)) (xs := xs) (l := cellsA X [.int .i64 kind, .int .i64 en, .int .i64 K, .string t] :: l) O6
        replace O9 := Lib.hid (pair_shut (pair_untail O9).drop)
        clear O6 OP O b16 fb16 lB6
        go_wp2_with fail
        go_ret
        exact ⟨rfl, _, _, _, _, hIn'.out, O9.out⟩
    · have hEb : decide (E = 0) = false := decide_eq_false hE0
      have hIn' := hIn.out
      rw [if_neg hE0] at hIn'
      replace hIn' := Lib.hid hIn'
      have O9 := Lib.hid (pair_shut (pair_untail O).drop)
      replace O := Lib.hid O
      replace hE0 := Lib.hid hE0
      go_wp2_with fail
      go_ret
      exact ⟨rfl, _, _, _, _, hIn'.out, O9.out⟩
  by_cases hk4 : kind < 4
  · have hb1 := hI.i.d1
    have hwl : d.c.wait.length ≤ T := by obtain ⟨a, ha, _⟩ := hb1.wait; have h5 := hb1.len; rw [ha, List.length_append] at h5; omega
    have hfl : d.c.first ≤ 1000000 := by obtain ⟨a, ha, ha2⟩ := hb1.wait; have h5 := hb1.len; rw [ha, List.length_append] at h5; omega
    have kP := posts_O ((O.out.pull 9 rfl).drew) ⟨by have := hb1.f1; omega, by have := hfl; omega⟩ (by omega)
    have hIn := Lib.hid (hI.posts (by omega))
    have hway := hI.way
    have hp8 := postsL_len8 d.c
    have kX : ∀ (wz : World) A4 cap4, Own W wz (chanA Nd { d.c with owes := false } :: slA 5 (.slice A4 (postsL d.c).length cap4) (postsL d.c).length (postCs (postsL d.c)) :: (pairL P 0 Bd Bo d o next old (Nd, (A1, c1), (A2, c2), A3, c3) (No, (C1, g1), (C2, g2), C3, g3) (Az, cz) xs (cellsA X [.int .i64 kind, .int .i64 en, .int .i64 K, .string t] :: l)).eraseIdx 9) →
        Bo < wz.heap.size ∧ Bd < wz.heap.size ∧ wz.cell? ⟨Bd, 0, none⟩ = some (chV Nd) ∧ wz.cell? ⟨Bo, 3, none⟩ = some (.slice C3 o.way.length g3) ∧ wz.frozen? ⟨Bo, 3, none⟩ = false := fun wz A4 cap4 O' => by
      obtain ⟨lB, qB, fB⟩ := O'.cells 10 rfl
      obtain ⟨lo, qo, fo⟩ := O'.cells 5 rfl
      exact ⟨lo, lB, qB 0 (by simp), qo 3 (by simp), fo 3⟩
    replace kX := Lib.hid kX
    replace kP := Lib.hid kP
    obtain ⟨ps, hps⟩ : ∃ ps, ps = postsL d.c := ⟨_, rfl⟩
    rw [← hps] at kP kX hIn hp8
    clear hps
    go_upto_region 8 with fail
    go_region_law (first | (refine step_append_O (by rfl) _ _ 34 34 (by rfl) 32 i0 _ 5 48 underPosts hi0.out hz0.out hz1.out hz2.out rfl (by rfl) (O4.pull 9 rfl) (xv := .slice A4 ps.length cap4) (by rfl) (src_of_sl (O4.sl 1 rfl) rfl) (by unfold maxLen; first | omega | (simp only; omega)) (by first | omega | (simp only; omega)) ?_; intro A6 c6 w6 O6; obtain ⟨lo6, qo6, fo6⟩ := O6.cells 6 rfl; have o36 := qo6 3 (by simp); simp only [List.getElem?_cons_succ, List.getElem?_cons_zero, slV] at o36; have fo36 := fo6 3; haveI : InW Bo w6 := ⟨lo6⟩; clear qo6 fo6) | (go_simp; go_at_call 14; (with_reducible refine (kP.out).mono ?_); rintro e w4 ⟨A4, cap4, rfl, O4⟩; obtain ⟨lo4, lB4, b04, o34, fo34⟩ := kX.out _ _ _ O4; haveI : InW Bo w4 := ⟨lo4⟩; haveI : InW Bd w4 := ⟨lB4⟩))
    all_goals
      have O9 := posts_push (W := W) (P := P) (k := 0) (Bd := Bd) (Bo := Bo) (c := d.c) (C := { d.c with owes := false }) (S := d.said) (H := d.heard) (way := d.way) (o := o) (next := next) (old := old) (Nd := Nd) (No := No) (a1 := (A1, c1)) (a2 := (A2, c2)) (a3 := (A3, c3)) (b1 := (C1, g1)) (b2 := (C2, g2)) (b3 := (C3, g3)) (z := (Az, cz)) (xs := xs) (l := cellsA X [.int .i64 kind, .int .i64 en, .int .i64 K, .string t] :: l) O6
      replace O9 := Lib.hid (pair_shut (pair_untail O9).drop)
      clear O6 O4 o36 fo36 lo6 o34 fo34 b04 lo4 lB4
      go_wp2_with fail
      go_ret
      exact ⟨rfl, _, _, _, _, hIn.out, O9.out⟩
  by_cases hk10 : kind = 10
  · subst hk10
    have hb1 := hI.i.d1
    have hnT := hI.i.nT
    have kB := Lib.hid (begin_0 O0.out ⟨by have := hb1.m1; have := hb1.m2; omega, by omega⟩ (by have := hI.olds; omega) (by have := hb1.len; omega) (by have := hI.way; omega))
    have hIn := Lib.hid hI.begin
    clear hb1 hnT
    go_wp2_with (go_at_call 34; (with_reducible refine kB.out.mono ?_); rintro e w4 ⟨rfl, O4⟩; replace O4 := Lib.hid O4.rot1.drop)
    go_ret
    exact ⟨rfl, _, _, _, _, hIn.out, O4.out⟩
  have hk10b : (kind == 10) = false := by rw [beq_eq_false_iff_ne]; exact hk10
  replace hk10 := Lib.hid hk10
  rcases Nat.eq_zero_or_pos d.way.length with hw0 | hw0
  · have hIn := Lib.hid (hI.mono (Nat.le_succ T))
    have hO := Lib.hid O0.out.rot1.drop
    rw [hw0] at b3
    replace hw0 := Lib.hid hw0
    go_wp2_with fail
    go_ret
    exact ⟨rfl, _, _, _, _, hIn.out, hO.out⟩
  have hwL : d.way.length ≤ 20000 := by have := hI.way; omega
  obtain ⟨tt, m, hr1, hr2, hr3, hr4, hm, htt1, htt2⟩ := remN K d.way.length hw0 (by omega)
  have hnz : ¬ (d.way.length : Int) = 0 := by omega
  have hnz2 : ((d.way.length : Int) == 0) = false := by rw [beq_eq_false_iff_ne]; exact hnz
  have hpos : (0 : Int) < d.way.length := by omega
  have hposb : decide (0 < d.way.length) = true := decide_eq_true hw0
  go_upto_region 12 with fail
  refine wp_region_grow (by kernel_rfl) (by kernel_rfl) ?_
  repeat (go_big_quiet_step (fail))
  refine wpQuiet_nil ?_
  intro ex
  clear hr1 hr2 hr3 hr4 htt1 htt2 hnz hnz2
  have OE := O.out.plus ex
  obtain ⟨g, oo, he3, hg, q0, q1, q2, q3, q4⟩ := rows_post (Own.rows 12 OE rfl rfl) m hm
  dsimp only at he3
  subst he3
  have hmem : d.way.getD m po0 ∈ d.way := by
    rw [List.getD_eq_getElem?_getD, List.getElem?_eq_getElem hm]
    exact List.getElem_mem _
  have hgood := hI.i.d2.way _ hmem
  have hgetm : d.way[m]? = some (d.way.getD m po0) := by
    rw [List.getD_eq_getElem?_getD, List.getElem?_eq_getElem hm]
    rfl
  generalize d.way.getD m po0 = pp at *
  replace hgood := Lib.hid hgood
  replace hmem := Lib.hid hmem
  replace hgetm := Lib.hid hgetm
  obtain ⟨we, hwe⟩ : ∃ we, we = wy.plus ex := ⟨_, rfl⟩
  have xx0 : we.cell? ⟨X, 0, none⟩ = some (.int .i64 kind) := by rw [hwe, World.cell?_plus]; exact x0
  have bb3 : we.cell? ⟨Bd, 3, none⟩ = some (.slice (some ⟨g, oo, none⟩) d.way.length c3) := by rw [hwe, World.cell?_plus]; exact b3
  have ff3 : we.frozen? ⟨Bd, 3, none⟩ = false := by rw [hwe, World.frozen?_plus]; exact fb3
  haveI : InW X we := ⟨by rw [hwe]; exact InW.lt⟩
  haveI : InW Bd we := ⟨by rw [hwe]; exact InW.lt⟩
  rw [← hwe] at OE q0 q1 q2 q3 q4 hg ⊢
  haveI : InW g we := ⟨hg⟩
  clear hwe x0 x1 x2 x3 b0 b1 b3 o3 p0 p1 fb1 fb3 fo3 lP lB lo lX
  have OZ := pair_tail (OE.newCells [.int .i64 pp.mine, .int .i64 pp.yours, .int .i64 pp.ack, .int .i64 pp.seq, .string pp.text] 32)
  replace OE := Lib.hid OE
  by_cases h9 : kind = 9
  · subst h9
    have OP := Lib.hid ((OZ.pull 12 rfl).alloc (.cells #[.int .i64 pp.mine, .int .i64 pp.yours, .int .i64 pp.ack, .int .i64 pp.seq, .string pp.text] 32)).drew
    have hIn := Lib.hid (hI.ways (d.way ++ [pp]) (fun x hx => (List.mem_append.1 hx).elim id (fun h => by rw [List.mem_singleton.1 h]; exact hmem.out)) (by simp))
    replace OZ := Lib.hid OZ
    have hwL3 := hI.way
    go_upto_region 15 with fail
    go_region_law ((go_loud (refine step_append_O (by rfl) _ _ 34 34 (by rfl) 32 i0 _ 5 48 underPosts hi0.out hz0.out hz1.out hz2.out rfl (by rfl) OP.out (xv := .slice (some ⟨we.heap.size + 1, 0, none⟩) 1 1) (by rfl) (src_postAt _ (we.heap.size + 1) pp.mine pp.yours pp.ack pp.seq pp.text (by simp [go_sem]) (by simp [go_sem]) (by simp [go_sem]) (by simp [go_sem]) (by simp [go_sem])) (by unfold maxLen; first | omega | (simp only; omega)) (by first | omega | (simp only; omega)) ?_); intro A6 c6 w6 O6; obtain ⟨lB6, qB6, fB6⟩ := O6.cells 9 rfl; have b36 := qB6 3 (by simp); simp only [List.getElem?_cons_succ, List.getElem?_cons_zero, slV] at b36; have fb36 := fB6 3; haveI : InW Bd w6 := ⟨lB6⟩; clear qB6 fB6))
    all_goals
      have e1 : (d.way ++ [pp]).length = d.way.length + 1 := by simp
      have e2 : postCs (d.way ++ [pp]) = postCs d.way ++ [.int .i64 pp.mine, .int .i64 pp.yours, .int .i64 pp.ack, .int .i64 pp.seq, .string pp.text] := by rw [postCs_append]; rfl
      rw [← e1, ← e2] at O6
      have O9 := way_push (W := W) (P := P) (k := 0) (Bd := Bd) (Bo := Bo) (c := d.c) (S := d.said) (H := d.heard) (way := d.way) (way' := d.way ++ [pp]) (o := o) (next := next) (old := old) (Nd := Nd) (a1 := (A1, c1)) (a2 := (A2, c2)) (a3 := (some ⟨g, oo, none⟩, c3)) (y := (No, (C1, g1), (C2, g2), (C3, g3))) (z := (Az, cz)) (xs := xs) O6
      rw [e1] at O9
      replace O9 := Lib.hid (pair_shut (pair_untail (pair_untail O9).drop).drop)
      replace e1 := Lib.hid e1
      replace e2 := Lib.hid e2
      clear O6 OP OZ OE b36 fb36 lB6
      go_wp2_with fail
      go_ret
      exact ⟨rfl, _, _, _, _, hIn.out, O9.out⟩
  have h9b : (kind == 9) = false := by rw [beq_eq_false_iff_ne]; exact h9
  replace h9 := Lib.hid h9
  have hgn : NetP d o pp := hI.net.a.way _ hmem.out
  have hIn := hI.cut (d.way.take m ++ d.way.drop (m + 1)) (fun x hx => (List.mem_append.1 hx).elim List.mem_of_mem_take List.mem_of_mem_drop) (by rw [List.length_append, List.length_take, List.length_drop]; omega)
  have hwl : (d.way.take m ++ d.way.drop (m + 1)).length = m + (d.way.length - (m + 1)) := by rw [List.length_append, List.length_take, List.length_drop]; omega
  have hwc : postCs (d.way.take m ++ d.way.drop (m + 1)) = postCs (d.way.take m) ++ postCs (d.way.drop (m + 1)) := postCs_append _ _
  replace hgn := Lib.hid hgn
  replace hIn := Lib.hid hIn
  have hml : (m : Int) ≤ d.way.length := by omega
  have hml1 : (m : Int) + 1 ≤ d.way.length := by omega
  have hcap : d.way.length ≤ c3 := by
    rcases (OE.out.sl 12 rfl).val with ⟨he, _⟩ | ⟨_, _, _, he, _, h1, h2, _⟩
    · cases he
    · cases he; exact h1
  have hmc : m ≤ c3 := by omega
  have hmci : (m : Int) ≤ c3 := by omega
  have hnci : (d.way.length : Int) ≤ c3 := by omega
  have OF : Own W ((we.alloc (.cells #[.int .i64 pp.mine, .int .i64 pp.yours, .int .i64 pp.ack, .int .i64 pp.seq, .string pp.text] 32)).alloc (.cells #[] 32)).drew (slA 5 (.slice (some ⟨we.heap.size + 1, 0, none⟩) 0 0) 0 [] :: _) := (Own.fresh0 5 OZ _ (by simp [go_sem])).drew
  replace OF := Lib.hid OF
  have hw1 : IntKind.i64.wrap ((m : Int) + 1) = (m : Int) + 1 := wrap_id (by omega) (by omega)
  have hw2 : wrap64 ((m : Int) + 1) = (m : Int) + 1 := w64_id (by omega) (by omega)
  have hw3 : ((m : Int) + 1).toNat = m + 1 := toNat_succ m
  have hm0 : (0 : Int) ≤ (m : Int) + 1 := zero_le_succ m
  have hm1 : (m : Int) ≤ (m : Int) + 1 := le_succ_i m
  replace OZ := Lib.hid OZ
  go_upto_region 17 with fail
  go_cut [] (fun wz => ∃ a3 : Ad, Own W wz (pairL P 0 Bd Bo ⟨d.c, d.said, d.heard, d.way.take m ++ d.way.drop (m + 1)⟩ o next old (Nd, (A1, c1), (A2, c2), a3) (No, (C1, g1), (C2, g2), C3, g3) (Az, cz) xs (cellsA we.heap.size [.int .i64 pp.mine, .int .i64 pp.yours, .int .i64 pp.ack, .int .i64 pp.seq, .string pp.text] :: cellsA X [.int .i64 kind, .int .i64 en, .int .i64 K, .string t] :: l)))
  case first =>
    by_cases hc : c3 = m + 1
    · subst hc
      go_region_law (first | ((refine step_append_O (by rfl) _ _ 34 34 (by rfl) 32 i0 _ 5 48 underPosts hi0.out hz0.out hz1.out hz2.out rfl (by rfl) O6 (xv := .slice (some ⟨g, oo, none⟩) (0) (0)) (by rfl) (src_tail (O6.sl 13 rfl) rfl (m + 1) (0) _ (by clear hw1 hw2 hw3; omega) _ (by clear hw1 hw2 hw3; omega)) (by clear hw1 hw2 hw3; unfold maxLen; omega) (by clear hw1 hw2 hw3; omega) ?_); intro A7 c7 w7 O7; obtain ⟨lB7, qB7, fB7⟩ := O7.cells 9 rfl; have b37 := qB7 3 (by simp); simp only [List.getElem?_cons_succ, List.getElem?_cons_zero, slV] at b37; have fb37 := fB7 3; haveI : InW Bd w7 := ⟨lB7⟩; clear qB7 fB7) | (go_loud (refine step_append_O (by rfl) _ _ 34 34 (by rfl) 32 i0 _ 5 48 underPosts hi0.out hz0.out hz1.out hz2.out rfl (by rfl) OF.out (xv := .slice (some ⟨g, oo, none⟩) m _) (by rfl) (src_head (OF.out.sl 13 rfl) rfl m _ (by clear hw1 hw2 hw3; omega)) (by clear hw1 hw2 hw3; unfold maxLen; omega) (by clear hw1 hw2 hw3; omega) ?_); intro A6 c6 w6 O6; rw [Nat.zero_add, List.nil_append] at O6; obtain ⟨lB6, qB6, fB6⟩ := O6.cells 9 rfl; have b36 := qB6 3 (by simp); simp only [List.getElem?_cons_succ, List.getElem?_cons_zero, slV] at b36; have fb36 := fB6 3; haveI : InW Bd w6 := ⟨lB6⟩; clear qB6 fB6))
      all_goals
        have e1 : (d.way.take m ++ d.way.drop (m + 1)).length = m + (0) := hwl.trans (by clear hw1 hw2 hw3; omega)
        have e2 : postCs (d.way.take m ++ d.way.drop (m + 1)) = postCs (d.way.take m) ++ postCs ((d.way.drop (m + 1)).take (0)) := by
          have e3 : (d.way.drop (m + 1)).take (0) = d.way.drop (m + 1) := List.take_of_length_le (by clear hw1 hw2 hw3; rw [List.length_drop]; omega)
          rw [hwc, e3]
        rw [← e1, ← e2] at O7
        have O9 := way_push (W := W) (P := P) (k := 0) (Bd := Bd) (Bo := Bo) (c := d.c) (S := d.said) (H := d.heard) (way := d.way) (way' := d.way.take m ++ d.way.drop (m + 1)) (o := o) (next := next) (old := old) (Nd := Nd) (a1 := (A1, c1)) (a2 := (A2, c2)) (y := (No, (C1, g1), (C2, g2), (C3, g3))) (z := (Az, cz)) (xs := xs) ((O7.pull 13 rfl).drop)
        rw [e1] at O9
        replace O9 := Lib.hid O9
        clear e1 e2 O7 O6 b36 fb36 lB6 b37 fb37 lB7
        go_wp2_with fail
        go_meet
        exact ⟨(A7, c7), O9.out⟩

    · skip
      go_region_law (first | ((refine step_append_O (by rfl) _ _ 34 34 (by rfl) 32 i0 _ 5 48 underPosts hi0.out hz0.out hz1.out hz2.out rfl (by rfl) O6 (xv := .slice (some ⟨g, oo+(m+1)*5, none⟩) (d.way.length-(m+1)) (c3-(m+1))) (by rfl) (src_tail (O6.sl 13 rfl) rfl (m + 1) (d.way.length-(m+1)) _ (by clear hw1 hw2 hw3; omega) _ (by clear hw1 hw2 hw3; omega)) (by clear hw1 hw2 hw3; unfold maxLen; omega) (by clear hw1 hw2 hw3; omega) ?_); intro A7 c7 w7 O7; obtain ⟨lB7, qB7, fB7⟩ := O7.cells 9 rfl; have b37 := qB7 3 (by simp); simp only [List.getElem?_cons_succ, List.getElem?_cons_zero, slV] at b37; have fb37 := fB7 3; haveI : InW Bd w7 := ⟨lB7⟩; clear qB7 fB7) | (go_loud (refine step_append_O (by rfl) _ _ 34 34 (by rfl) 32 i0 _ 5 48 underPosts hi0.out hz0.out hz1.out hz2.out rfl (by rfl) OF.out (xv := .slice (some ⟨g, oo, none⟩) m _) (by rfl) (src_head (OF.out.sl 13 rfl) rfl m _ (by clear hw1 hw2 hw3; omega)) (by clear hw1 hw2 hw3; unfold maxLen; omega) (by clear hw1 hw2 hw3; omega) ?_); intro A6 c6 w6 O6; rw [Nat.zero_add, List.nil_append] at O6; obtain ⟨lB6, qB6, fB6⟩ := O6.cells 9 rfl; have b36 := qB6 3 (by simp); simp only [List.getElem?_cons_succ, List.getElem?_cons_zero, slV] at b36; have fb36 := fB6 3; haveI : InW Bd w6 := ⟨lB6⟩; clear qB6 fB6))
      all_goals
        have e1 : (d.way.take m ++ d.way.drop (m + 1)).length = m + (d.way.length-(m+1)) := hwl.trans (by clear hw1 hw2 hw3; omega)
        have e2 : postCs (d.way.take m ++ d.way.drop (m + 1)) = postCs (d.way.take m) ++ postCs ((d.way.drop (m + 1)).take (d.way.length-(m+1))) := by
          have e3 : (d.way.drop (m + 1)).take (d.way.length-(m+1)) = d.way.drop (m + 1) := List.take_of_length_le (by clear hw1 hw2 hw3; rw [List.length_drop]; omega)
          rw [hwc, e3]
        rw [← e1, ← e2] at O7
        have O9 := way_push (W := W) (P := P) (k := 0) (Bd := Bd) (Bo := Bo) (c := d.c) (S := d.said) (H := d.heard) (way := d.way) (way' := d.way.take m ++ d.way.drop (m + 1)) (o := o) (next := next) (old := old) (Nd := Nd) (a1 := (A1, c1)) (a2 := (A2, c2)) (y := (No, (C1, g1), (C2, g2), (C3, g3))) (z := (Az, cz)) (xs := xs) ((O7.pull 13 rfl).drop)
        rw [e1] at O9
        replace O9 := Lib.hid O9
        clear e1 e2 O7 O6 b36 fb36 lB6 b37 fb37 lB7
        go_wp2_with fail
        go_meet
        exact ⟨(A7, c7), O9.out⟩

  clear hmc hmci hnci hw1 hw2 hw3 hm0 hm1 hwl hwc hcap hml hml1 OF OE OZ q0 q1 q2 q3 q4 xx0 bb3 ff3 hm hpos hposb hwL
  obtain ⟨a3, O⟩ := hcut
  obtain ⟨lY, qY, fY⟩ := O.cells 14 rfl
  obtain ⟨lX, qX, fX⟩ := O.cells 15 rfl
  have y0 := qY 0 (by simp)
  have y1 := qY 1 (by simp)
  have y2 := qY 2 (by simp)
  have y3 := qY 3 (by simp)
  have y4 := qY 4 (by simp)
  have x0 := qX 0 (by simp)
  simp only [List.getElem?_cons_succ, List.getElem?_cons_zero] at y0 y1 y2 y3 y4 x0
  generalize we.heap.size = Y at *
  haveI : InW Y wc := ⟨lY⟩
  haveI : InW X wc := ⟨lX⟩
  clear qY fY qX fX
  generalize d.way.take m ++ d.way.drop (m + 1) = way' at *
  have OS := pair_shut O
  clear O
  by_cases h8 : kind = 8
  · subst h8
    have O9 := Lib.hid OS.rot1.drop.rot1.drop
    replace OS := Lib.hid OS
    have hIn' := Lib.hid (hIn.out.mono (Nat.le_succ T))
    go_wp2_with fail
    go_ret
    exact ⟨rfl, _, _, _, _, hIn'.out, O9.out⟩
  have h8b : (kind == 8) = false := by rw [beq_eq_false_iff_ne]; exact h8
  replace h8 := Lib.hid h8
  by_cases hle : d.c.yours ≤ pp.mine
  · have hg' : Good o old pp := hgood.out
    have hC := hIn.out.comes pp hg' ⟨hgn.out.epo, hgn.out.ack⟩ hle
    have hb := hIn.out.bounds
    have kC := Lib.hid (comes_0 OS pp hg'.ok hle hb.d1 hb.d2 hb.d3 ⟨by have := hb.d4; omega, by have := hb.d5; omega, by have := hb.d6; omega, by have := hb.d7; omega, by have := hb.d8; omega⟩ (fun e he => by have := hC.sz e he; omega) hC.i.d2.pre)
    replace hC := Lib.hid hC
    clear hb hg'
    replace OS := Lib.hid OS
    replace hle := Lib.hid hle
    go_wp2_with (go_at_call 36; (with_reducible refine kC.out.mono ?_); rintro e w4 ⟨rfl, O4⟩; replace O4 := Lib.hid O4.rot1.drop.rot1.drop)
    go_ret
    exact ⟨rfl, _, _, _, _, hC.out, O4.out⟩
  · have hg' : Good o old pp := hgood.out
    have hIn' := Lib.hid (hIn.out.mono (Nat.le_succ T))
    have hb := hIn.out.bounds
    have kC := Lib.hid (comes_old0 OS pp hg'.ok (by show pp.mine < d.c.yours; omega) hb.d1 hb.d2 hb.d3)
    clear hb hg'
    replace OS := Lib.hid OS
    replace hle := Lib.hid hle
    go_wp2_with (go_at_call 36; (with_reducible refine kC.out.mono ?_); rintro e w4 ⟨rfl, O4⟩; replace O4 := Lib.hid O4.rot1.drop.rot1.drop)
    go_ret
    exact ⟨rfl, _, _, _, _, hIn'.out, O4.out⟩

end Go.Proofs.Ytpmebmbibajcoaa
