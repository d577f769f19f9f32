/- arch: the reference's Put, Remove, Write, Get: walk. -/
import Derived.Test.YtkdagljoiacaaaaArRb
import Derived.Test.YtkdagljoiacaaaaAr8
set_option linter.unusedSimpArgs false
set_option linter.unusedVariables false
namespace Go.Proofs.Ytkdagljoiacaaaa
open Go.RowKit
set_option maxRecDepth 100000 in
set_option maxHeartbeats 1000000 in
theorem refPutS {W wx : World} {R : Nat} {T : Tabs} {l : List Asn} (h : Own W wx (refA R T :: l)) (hg : GoodT T) (b : BdR) (ht : total T ≤ 90000) :
    Calls Try.prog 36 #[chP R, b.v] wx (OwnTo W (nI (putS T b).2) (refA R (putS T b).1 :: l)) := by
  have hW := Lib.hid (Own.atP h)
  have kC := Lib.hid (fun wz => may_any b wz)
  have kH := Lib.hid (fun wz (p : wx.Plus wz) => refAt_any (hW.out wz p) hg b.id (by omega))
  by_cases hb : okB b = true
  · rw [hb] at kC
    cases hf : findT T b.id with
    | some p =>
      obtain ⟨m, i⟩ := p
      have hp : putS T b = (T, 7) := by unfold putS; rw [if_pos hb, hf]; rfl
      rw [hp]
      rw [hf] at kH
      simp only [atV] at kH
      clear hp hf hb
      replace h := Lib.hid h
      go_enter Try.func36, Try.ntmps36
      go_wp2_with (first | (go_at_call 54; (with_reducible refine (kC.out _).mono ?_); rintro e w' ⟨rfl, ey, rfl⟩) | (go_at_call 55; (with_reducible refine (kH.out _ (by (repeat (first | exact Plus.refl _ | apply Plus.plus | apply Plus.alloc | apply Plus.drew)))).mono ?_); rintro e w' ⟨rfl, ey, rfl⟩))
      go_ret
      exact ⟨rfl, hW.out _ (by (repeat (first | exact Plus.refl _ | apply Plus.plus | apply Plus.alloc | apply Plus.drew)))⟩
    | none =>
      have hp : putS T b = (putT T b, 0) := by unfold putS; rw [if_pos hb, hf]; rfl
      have kA := Lib.hid (fun wz (p : wx.Plus wz) => refPut_O (hW.out wz p) b hb (by omega))
      rw [hp]
      rw [hf] at kH
      simp only [atV] at kH
      clear hp hf hb
      replace h := Lib.hid h
      go_enter Try.func36, Try.ntmps36
      go_wp2_with (first | (go_at_call 54; (with_reducible refine (kC.out _).mono ?_); rintro e w' ⟨rfl, ey, rfl⟩) | (go_at_call 55; (with_reducible refine (kH.out _ (by (repeat (first | exact Plus.refl _ | apply Plus.plus | apply Plus.alloc | apply Plus.drew)))).mono ?_); rintro e w' ⟨rfl, ey, rfl⟩) | (go_at_call 56; (with_reducible refine (kA.out _ (by (repeat (first | exact Plus.refl _ | apply Plus.plus | apply Plus.alloc | apply Plus.drew)))).mono ?_); rintro e w9 ⟨rfl, O9⟩))
      go_ret
      exact ⟨rfl, O9⟩
  · have hb' : okB b = false := by simpa using hb
    have hp : putS T b = (T, 1) := by unfold putS; rw [if_neg hb]
    rw [hb'] at kC
    rw [hp]
    clear hp hb hb' kH
    replace h := Lib.hid h
    go_enter Try.func36, Try.ntmps36
    go_wp2_with (go_at_call 54; (with_reducible refine (kC.out _).mono ?_); rintro e w' ⟨rfl, ey, rfl⟩)
    go_ret
    exact ⟨rfl, hW.out _ (by (repeat (first | exact Plus.refl _ | apply Plus.plus | apply Plus.alloc | apply Plus.drew)))⟩
set_option maxRecDepth 100000 in
set_option maxHeartbeats 1000000 in
theorem refRemoveS {W wx : World} {R : Nat} {T : Tabs} {l : List Asn} (h : Own W wx (refA R T :: l)) (hg : GoodT T) (a : IdR) (ht : total T ≤ 90000) :
    Calls Try.prog 38 #[chP R, a.v] wx (OwnTo W (.bool (removeS T a).2) (refA R (removeS T a).1 :: l)) := by
  have hW := Lib.hid (Own.atP h)
  have kH := Lib.hid (fun wz (p : wx.Plus wz) => refAt_any (hW.out wz p) hg a (by omega))
  cases hf : findT T a with
  | none =>
    have hp : removeS T a = (T, false) := by unfold removeS; rw [hf]
    rw [hp]
    rw [hf] at kH
    simp only [atV] at kH
    clear hp hf
    replace h := Lib.hid h
    go_enter Try.func38, Try.ntmps38
    go_wp2_with (go_at_call 55; (with_reducible refine (kH.out _ (by (repeat (first | exact Plus.refl _ | apply Plus.plus | apply Plus.alloc | apply Plus.drew)))).mono ?_); rintro e w' ⟨rfl, ey, rfl⟩)
    go_ret
    exact ⟨rfl, hW.out _ (by (repeat (first | exact Plus.refl _ | apply Plus.plus | apply Plus.alloc | apply Plus.drew)))⟩
  | some p =>
    obtain ⟨m, i⟩ := p
    have hp : removeS T a = (cutT T m i, true) := by unfold removeS; rw [hf]
    obtain ⟨hm, b, hb, _⟩ := findT_some hf
    have kA := Lib.hid (fun wz (p : wx.Plus wz) => refCut_O (hW.out wz p) m i hm (List.getElem?_eq_some_iff.1 hb).1 (by omega))
    have hd : decide ((m : Int) < 0) = false := by simp
    rw [hp]
    rw [hf] at kH
    simp only [atV] at kH
    clear hp hf hb hm
    replace h := Lib.hid h
    go_enter Try.func38, Try.ntmps38
    go_wp2_with (first | (go_at_call 55; (with_reducible refine (kH.out _ (by (repeat (first | exact Plus.refl _ | apply Plus.plus | apply Plus.alloc | apply Plus.drew)))).mono ?_); rintro e w' ⟨rfl, ey, rfl⟩) | (go_at_call 57; (with_reducible refine (kA.out _ (by (repeat (first | exact Plus.refl _ | apply Plus.plus | apply Plus.alloc | apply Plus.drew)))).mono ?_); rintro e w9 ⟨rfl, O9⟩))
    go_ret
    exact ⟨rfl, O9⟩
/-- rows of the same number in the place of a table's -/
theorem ref_same {W w : World} {R : Nat} {c : Nat → Ad} {T : Tabs} {l : List Asn} {j : Nat} {rows : List BdR} (h : Own W w (slA 11 (.slice (c j).1 (T j).length (c j).2) (T j).length (bdsCs rows) :: bothA ((rcolsL c T).eraseIdx j) :: cellsA R (rcellsL c T) :: l)) (hn : rows.length = (T j).length) (hj : j < 32) :
    Own W w (refL R c (upd T j rows) l) := by
  rw [← hn] at h
  have h1 : Own W w (rcolA ((c j), rows) :: ((rcolsL c T).eraseIdx j ++ (cellsA R (rcellsL c T) :: l))) := h.rot1.both.perm List.perm_middle
  rw [← List.eraseIdx_append_of_lt_length (by rw [rcolsL_length]; exact hj)] at h1
  have h2 := Own.push (rcolsL c T ++ (cellsA R (rcellsL c T) :: l)) j (by rw [List.length_append, rcolsL_length]; omega) h1
  have ec : upd c j (c j) = c := by
    funext i
    unfold upd
    split
    · rename_i e; rw [e]
    · rfl
  rw [List.set_append_left _ _ (by rw [rcolsL_length]; exact hj), ← rcolsL_upd c T j (c j) rows hj, ec] at h2
  have h3 := h2.join
  unfold refL
  have er : rcellsL c (upd T j rows) = rcellsL c T := by
    have := rcellsL_upd c T j (c j) rows hj
    rw [ec] at this
    rw [this, hn]
    apply List.ext_getElem?
    intro i
    rw [List.getElem?_set]
    split
    · rename_i e
      subst e
      rw [rcellsL_length, if_pos hj, rcellsL_get c T j hj]
    · rfl
  rw [er]
  exact h3
set_option maxRecDepth 100000 in
set_option maxHeartbeats 1000000 in
theorem refWrite_bad {W wx : World} {R : Nat} {T : Tabs} {l : List Asn} (h : Own W wx (refA R T :: l)) (hg : GoodT T) (b : BdR) (ht : total T ≤ 90000) (hn : okB b = false ∨ findT T b.id = none) :
    Calls Try.prog 39 #[chP R, b.v] wx (OwnTo W (nI (if okB b then 6 else 1)) (refA R T :: l)) := by
  have hW := Lib.hid (Own.atP h)
  have kC := Lib.hid (fun wz => may_any b wz)
  have kH := Lib.hid (fun wz (p : wx.Plus wz) => refAt_any (hW.out wz p) hg b.id (by omega))
  cases hb : okB b with
  | true =>
    rw [hb] at kC
    have hf : findT T b.id = none := hn.resolve_left (by rw [hb]; simp)
    rw [hf] at kH
    simp only [atV] at kH
    rw [if_pos rfl]
    clear hf hb hn
    replace h := Lib.hid h
    go_enter Try.func39, Try.ntmps39
    go_wp2_with (first | (go_at_call 54; (with_reducible refine (kC.out _).mono ?_); rintro e w' ⟨rfl, ey, rfl⟩) | (go_at_call 55; (with_reducible refine (kH.out _ (by (repeat (first | exact Plus.refl _ | apply Plus.plus | apply Plus.alloc | apply Plus.drew)))).mono ?_); rintro e w' ⟨rfl, ey, rfl⟩))
    go_ret
    exact ⟨rfl, hW.out _ (by (repeat (first | exact Plus.refl _ | apply Plus.plus | apply Plus.alloc | apply Plus.drew)))⟩
  | false =>
    rw [hb] at kC
    rw [if_neg (by simp)]
    clear hb kH hn
    replace h := Lib.hid h
    go_enter Try.func39, Try.ntmps39
    go_wp2_with (go_at_call 54; (with_reducible refine (kC.out _).mono ?_); rintro e w' ⟨rfl, ey, rfl⟩)
    go_ret
    exact ⟨rfl, hW.out _ (by (repeat (first | exact Plus.refl _ | apply Plus.plus | apply Plus.alloc | apply Plus.drew)))⟩
set_option maxRecDepth 100000 in
set_option maxHeartbeats 1000000 in
theorem refWrite_there {W wx : World} {R : Nat} {T : Tabs} {l : List Asn} (h : Own W wx (refA R T :: l)) (hg : GoodT T) (b : BdR) (hb : okB b = true) (m i : Nat) (hf : findT T b.id = some (m, i)) (ht : total T ≤ 90000) :
    Calls Try.prog 39 #[chP R, b.v] wx (OwnTo W (nI 0) (refA R (if (m : Int) = b.mask then setT T m i b else putT (cutT T m i) b) :: l)) := by
  obtain ⟨TT, hTT⟩ : ∃ TT, TT = if (m : Int) = b.mask then setT T m i b else putT (cutT T m i) b := ⟨_, rfl⟩
  rw [← hTT]
  replace hTT := Lib.hid hTT
  have kC := Lib.hid (fun wz => may_any b wz)
  rw [hb] at kC
  obtain ⟨hm32, bo, ho, hoid⟩ := findT_some hf
  have hil := (List.getElem?_eq_some_iff.1 ho).1
  have hct := (cut_total hf).1
  have hlen : (T m).length ≤ 90000 := Nat.le_trans (len_total T _ hm32) ht
  have hd : decide ((m : Int) < 0) = false := by simp
  obtain ⟨c, O⟩ := ref_open h
  have hb' := Lib.hid hb
  clear hoid
  replace ho := Lib.hid ho
  obtain ⟨⟨is, ii, ig⟩, bm, bx, by', bvx, bvy, bhp, bpw, blf⟩ := b
  dsimp only at hf
  have O1 : Own W (wx.alloc (.cells #[nI is, nI ii, nI ig, nI bm, nI bx, nI by', nI bvx, nI bvy, nI bhp, nI bpw, nI blf] 40)) (refL R c T (cellsA wx.heap.size [nI is, nI ii, nI ig, nI bm, nI bx, nI by', nI bvx, nI bvy, nI bhp, nI bpw, nI blf] :: l)) := (Own.newCells O [nI is, nI ii, nI ig, nI bm, nI bx, nI by', nI bvx, nI bvy, nI bhp, nI bpw, nI blf] 40).perm (List.perm_middle (l₁ := [_, _])).symm
  generalize hX : wx.heap.size = X at *
  generalize hwy : wx.alloc (.cells #[nI is, nI ii, nI ig, nI bm, nI bx, nI by', nI bvx, nI bvy, nI bhp, nI bpw, nI blf] 40) = wy at *
  have kH := Lib.hid (fun wz (p : wy.Plus wz) => refAt_any (ref_shut (Own.atP O1 wz p)) hg ⟨is, ii, ig⟩ (by omega))
  rw [hf] at kH
  simp only [atV] at kH
  clear O h hb hf
  have B1 := boxAt (b := ⟨⟨is, ii, ig⟩, bm, bx, by', bvx, bvy, bhp, bpw, blf⟩) 2 O1 rfl
  obtain ⟨hIn, q0, q1, q2, q3, q4, q5, q6, q7, q8, q9, q10⟩ := B1
  dsimp only at q0 q1 q2 q3 q4 q5 q6 q7 q8 q9 q10
  replace O1 := Lib.hid O1
  go_enter Try.func39, Try.ntmps39
  go_upto_region 6 with (first | (go_at_call 54; (with_reducible refine (kC.out _).mono ?_); rintro e w' ⟨rfl, ey, rfl⟩) | (go_at_call 55; (with_reducible refine (kH.out _ (by (repeat (first | exact Plus.refl _ | apply Plus.plus | apply Plus.alloc | apply Plus.drew)))).mono ?_); rintro e w' ⟨rfl, ez, rfl⟩))
  have O2 := (O1.out.plus ey).plus ez
  generalize (wy.plus ey).plus ez = w1 at *
  clear kC kH q0 q1 q2 q3 q4 q5 q6 q7 q8 q9 q10 O1 hwy hX hIn
  have B1 := boxAt (b := ⟨⟨is, ii, ig⟩, bm, bx, by', bvx, bvy, bhp, bpw, blf⟩) 2 O2 rfl
  obtain ⟨hIn, q0, q1, q2, q3, q4, q5, q6, q7, q8, q9, q10⟩ := B1
  dsimp only at q0 q1 q2 q3 q4 q5 q6 q7 q8 q9 q10
  by_cases hmask : (m : Int) = bm
  · subst hmask
    obtain ⟨lR, sc, sf⟩ := ref_at O2
    have s0 := sc m hm32
    have O3 := ref_pull O2 hm32
    obtain ⟨g, o, hA, hg1, hc, hf⟩ : ∃ g o, (c m).1 = some ⟨g, o, none⟩ ∧ g < w1.heap.size ∧ (∀ j, j < (T m).length * 11 → w1.cell? ⟨g, o + j, none⟩ = (bdsCs (T m))[j]?) ∧ ∀ j, j < (T m).length * 11 → w1.frozen? ⟨g, o + j, none⟩ = false := by
      rcases (O3.sl 0 rfl).val with ⟨_, h0⟩ | ⟨g, off, cap', he, hgl, h3, _, h5, h6⟩
      · omega
      · simp only [Value.slice.injEq] at he
        exact ⟨g, off, he.1, hgl, h5, fun j hj => (h6 j (by omega)).2⟩
    rw [hA] at s0
    have hm32i : (m : Int) < 32 := by omega
    have hili : (i : Int) < (T m).length := by omega
    haveI : InW g w1 := ⟨hg1⟩
    have d0 := (hc (i * 11) (by omega)).trans (bdsCs_get _ i bo ho.out 0 (by omega))
    have d1 : w1.cell? ⟨g, o + i * 11 + 1, none⟩ = _ := (hc (i * 11 + 1) (by omega)).trans (bdsCs_get _ i bo ho.out 1 (by omega))
    have d2 : w1.cell? ⟨g, o + i * 11 + 2, none⟩ = _ := (hc (i * 11 + 2) (by omega)).trans (bdsCs_get _ i bo ho.out 2 (by omega))
    have d3 : w1.cell? ⟨g, o + i * 11 + 3, none⟩ = _ := (hc (i * 11 + 3) (by omega)).trans (bdsCs_get _ i bo ho.out 3 (by omega))
    have d4 : w1.cell? ⟨g, o + i * 11 + 4, none⟩ = _ := (hc (i * 11 + 4) (by omega)).trans (bdsCs_get _ i bo ho.out 4 (by omega))
    have d5 : w1.cell? ⟨g, o + i * 11 + 5, none⟩ = _ := (hc (i * 11 + 5) (by omega)).trans (bdsCs_get _ i bo ho.out 5 (by omega))
    have d6 : w1.cell? ⟨g, o + i * 11 + 6, none⟩ = _ := (hc (i * 11 + 6) (by omega)).trans (bdsCs_get _ i bo ho.out 6 (by omega))
    have d7 : w1.cell? ⟨g, o + i * 11 + 7, none⟩ = _ := (hc (i * 11 + 7) (by omega)).trans (bdsCs_get _ i bo ho.out 7 (by omega))
    have d8 : w1.cell? ⟨g, o + i * 11 + 8, none⟩ = _ := (hc (i * 11 + 8) (by omega)).trans (bdsCs_get _ i bo ho.out 8 (by omega))
    have d9 : w1.cell? ⟨g, o + i * 11 + 9, none⟩ = _ := (hc (i * 11 + 9) (by omega)).trans (bdsCs_get _ i bo ho.out 9 (by omega))
    have d10 : w1.cell? ⟨g, o + i * 11 + 10, none⟩ = _ := (hc (i * 11 + 10) (by omega)).trans (bdsCs_get _ i bo ho.out 10 (by omega))
    simp only [List.getElem?_cons_succ, List.getElem?_cons_zero] at d0 d1 d2 d3 d4 d5 d6 d7 d8 d9 d10
    have f0 := hf (i * 11) (by omega)
    have f1 : w1.frozen? ⟨g, o + i * 11 + 1, none⟩ = _ := hf (i * 11 + 1) (by omega)
    have f2 : w1.frozen? ⟨g, o + i * 11 + 2, none⟩ = _ := hf (i * 11 + 2) (by omega)
    have f3 : w1.frozen? ⟨g, o + i * 11 + 3, none⟩ = _ := hf (i * 11 + 3) (by omega)
    have f4 : w1.frozen? ⟨g, o + i * 11 + 4, none⟩ = _ := hf (i * 11 + 4) (by omega)
    have f5 : w1.frozen? ⟨g, o + i * 11 + 5, none⟩ = _ := hf (i * 11 + 5) (by omega)
    have f6 : w1.frozen? ⟨g, o + i * 11 + 6, none⟩ = _ := hf (i * 11 + 6) (by omega)
    have f7 : w1.frozen? ⟨g, o + i * 11 + 7, none⟩ = _ := hf (i * 11 + 7) (by omega)
    have f8 : w1.frozen? ⟨g, o + i * 11 + 8, none⟩ = _ := hf (i * 11 + 8) (by omega)
    have f9 : w1.frozen? ⟨g, o + i * 11 + 9, none⟩ = _ := hf (i * 11 + 9) (by omega)
    have f10 : w1.frozen? ⟨g, o + i * 11 + 10, none⟩ = _ := hf (i * 11 + 10) (by omega)
    have O4 : Own W (w1.setCells g (o + i * 11) (BdR.cs ⟨⟨is, ii, ig⟩, (m : Int), bx, by', bvx, bvy, bhp, bpw, blf⟩)) (refL R c (upd T m ((T m).set i ⟨⟨is, ii, ig⟩, (m : Int), bx, by', bvx, bvy, bhp, bpw, blf⟩)) (cellsA X [nI is, nI ii, nI ig, nI (m : Int), nI bx, nI by', nI bvx, nI bvy, nI bhp, nI bpw, nI blf] :: l)) := by
      rw [show (Value.slice (c m).1 (T m).length (c m).2) = .slice (some ⟨g, o, none⟩) (T m).length (c m).2 by rw [hA]] at O3
      have O5 := Own.setSlL (BdR.cs ⟨⟨is, ii, ig⟩, (m : Int), bx, by', bvx, bvy, bhp, bpw, blf⟩) O3 (i * 11) (by show i * 11 + 11 ≤ _; omega)
      rw [bdsCs_setL _ _ _ hil] at O5
      exact ref_same (by rw [hA]; exact O5) (by rw [List.length_set]) hm32
    have O9 := Lib.hid (ref_shut ((O4.pull 2 rfl).drop))
    clear hc hf sc sf O3 O4 hA ho
    replace O2 := Lib.hid O2
    obtain ⟨nl, hnl⟩ : ∃ nl, nl = (T m).length := ⟨_, rfl⟩
    rw [← hnl] at s0 hili
    clear hnl hil hlen hct hd
    go_upto_region 7 with fail
    refine wp_region_grow_tail 9 (by kernel_rfl) (by kernel_rfl) ?_
    simp only [List.take_succ_cons, List.take_zero, List.drop_succ_cons, List.drop_zero]
    repeat (go_big_quiet_step (fail))
    refine wpQuiet_nil ?_
    intro ex
    go_wp2_with fail
    obtain ⟨w7, hw7⟩ : ∃ w7, w7 = w1.setCells g (o + i * 11) (BdR.cs ⟨⟨is, ii, ig⟩, (m : Int), bx, by', bvx, bvy, bhp, bpw, blf⟩) := ⟨_, rfl⟩
    have hw8 : (((((((((((w1.setCell ⟨g, o + i * 11, none⟩ (.int .i64 is)).setCell ⟨g, o + i * 11 + 1, none⟩ (.int .i64 ii)).setCell ⟨g, o + i * 11 + 2, none⟩ (.int .i64 ig)).setCell ⟨g, o + i * 11 + 3, none⟩ (.int .i64 (m : Int))).setCell ⟨g, o + i * 11 + 4, none⟩ (.int .i64 bx)).setCell ⟨g, o + i * 11 + 5, none⟩ (.int .i64 by')).setCell ⟨g, o + i * 11 + 6, none⟩ (.int .i64 bvx)).setCell ⟨g, o + i * 11 + 7, none⟩ (.int .i64 bvy)).setCell ⟨g, o + i * 11 + 8, none⟩ (.int .i64 bhp)).setCell ⟨g, o + i * 11 + 9, none⟩ (.int .i64 bpw)).setCell ⟨g, o + i * 11 + 10, none⟩ (.int .i64 blf)) = w7 := hw7.symm
    rw [← hw7] at O9
    first | rw [hw8] | skip
    go_ret
    exact ⟨rfl, by rw [hTT.out]; simp only [if_true]; exact O9.out.plus ex⟩
  · have hTT2 := hTT.out
    rw [if_neg hmask] at hTT2
    clear hTT
    have kX := Lib.hid (refCut_O (ref_shut O2) m i hm32 hil ht)
    have hdec : ((m : Int) == bm) = false := by simpa using hmask
    replace hmask := Lib.hid hmask
    have hct2 := Lib.hid (show total (cutT T m i) ≤ 90000 by rw [hct]; omega)
    generalize cutT T m i = T2 at *
    replace hct := Lib.hid hct
    replace hTT2 := Lib.hid hTT2
    replace O2 := Lib.hid O2
    clear hm32 hil hd hlen ho
    replace hg := Lib.hid hg
    go_upto_region 10 with (go_at_call 57; (with_reducible refine kX.out.mono ?_); rintro e w9 ⟨rfl, O9⟩)
    clear kX q0 q1 q2 q3 q4 q5 q6 q7 q8 q9 q10 O2 hIn
    have B1 := boxAt (b := ⟨⟨is, ii, ig⟩, bm, bx, by', bvx, bvy, bhp, bpw, blf⟩) 1 O9 rfl
    obtain ⟨hIn, q0, q1, q2, q3, q4, q5, q6, q7, q8, q9, q10⟩ := B1
    dsimp only at q0 q1 q2 q3 q4 q5 q6 q7 q8 q9 q10
    have kP := Lib.hid (refPut_O O9 _ hb'.out hct2.out)
    rw [← hTT2.out] at kP
    clear hTT2
    replace O9 := Lib.hid O9
    clear hdec
    go_wp2_with (go_at_call 56; (with_reducible refine kP.out.mono ?_); rintro e w10 ⟨rfl, O10⟩)
    go_ret
    exact ⟨rfl, (O10.pull 1 rfl).drop⟩
theorem refWriteS {W wx : World} {R : Nat} {T : Tabs} {l : List Asn} (h : Own W wx (refA R T :: l)) (hg : GoodT T) (b : BdR) (ht : total T ≤ 90000) :
    Calls Try.prog 39 #[chP R, b.v] wx (OwnTo W (nI (writeS T b).2) (refA R (writeS T b).1 :: l)) := by
  by_cases hb : okB b = true
  · cases hf : findT T b.id with
    | none =>
      have := refWrite_bad h hg b ht (.inr hf)
      rw [if_pos hb] at this
      rw [show writeS T b = (T, 6) by unfold writeS; rw [if_pos hb, hf]]
      exact this
    | some p =>
      obtain ⟨m, i⟩ := p
      have := refWrite_there h hg b hb m i hf ht
      rw [show writeS T b = (if (m : Int) = b.mask then setT T m i b else putT (cutT T m i) b, 0) by unfold writeS; rw [if_pos hb, hf]; simp only; split <;> rfl]
      exact this
  · have := refWrite_bad h hg b ht (.inl (by simpa using hb))
    rw [if_neg hb] at this
    rw [show writeS T b = (T, 1) by unfold writeS; rw [if_neg hb]]
    exact this
theorem bd_zero (w : World) : (zeroValue 40).run Try.prog w = .ok bd0.v w := by kernel_rfl
set_option maxRecDepth 100000 in
set_option maxHeartbeats 1000000 in
theorem refGetS {W wx : World} {R : Nat} {T : Tabs} {l : List Asn} (h : Own W wx (refA R T :: l)) (hg : GoodT T) (a : IdR) (ht : total T ≤ 90000) :
    Calls Try.prog 37 #[chP R, a.v] wx fun e w' => e = .returned (.tuple #[(getS T a).v, nI (((findT T a).elim 0 Prod.snd : Nat)), .bool (findT T a).isSome]) ∧ wx.Plus w' := by
  have hW := Lib.hid (Own.atP h)
  obtain ⟨is, ii, ig⟩ := a
  have kH := Lib.hid (fun wz (p : wx.Plus wz) => refAt_any (hW.out wz p) hg ⟨is, ii, ig⟩ (by omega))
  cases hf : findT T ⟨is, ii, ig⟩ with
  | none =>
    have hgs : getS T ⟨is, ii, ig⟩ = bd0 := by unfold getS; rw [hf]
    rw [hf] at kH
    simp only [atV] at kH
    rw [hgs]
    simp only [Option.isSome_none, Option.elim]
    clear hf hgs
    replace h := Lib.hid h
    go_enter Try.func37, Try.ntmps37
    go_wp2_with (go_at_call 55; (with_reducible refine (kH.out _ (by (repeat (first | exact Plus.refl _ | apply Plus.plus | apply Plus.alloc | apply Plus.drew)))).mono ?_); rintro e w' ⟨rfl, ey, rfl⟩)
    exact bodyPost_ret (v := .tuple #[bd0.v, nI 0, .bool false]) (by simp [results, Try.results37, go_sem]) rfl ⟨rfl, by (repeat (first | exact Plus.refl _ | apply Plus.plus | apply Plus.alloc | apply Plus.drew))⟩
  | some p =>
    obtain ⟨m, i⟩ := p
    obtain ⟨hm32, hb, hid⟩ := find_get hf
    generalize getS T ⟨is, ii, ig⟩ = b at *
    rw [hf] at kH
    simp only [atV] at kH
    simp only [Option.isSome_some, Option.elim]
    have hil := (List.getElem?_eq_some_iff.1 hb).1
    have hlen : (T m).length ≤ 90000 := Nat.le_trans (len_total T _ hm32) ht
    have hd : decide ((m : Int) < 0) = false := by simp
    obtain ⟨c, O⟩ := ref_open h
    have hRx := Lib.hid (fun wz (p : wx.Plus wz) => (by
      have O2 := Own.atP O wz p
      have O3 := ref_pull O2 hm32
      obtain ⟨lR, sc, sf⟩ := ref_at O2
      rcases (O3.sl 0 rfl).val with ⟨_, h0⟩ | ⟨g, off, cap', he, hgl, h3, _, h5, h6⟩
      · omega
      · simp only [Value.slice.injEq] at he
        refine ⟨lR, g, off, hgl, ?_, fun j hj => (?_ : wz.cell? ⟨g, off + (i * 11 + j), none⟩ = b.cs[j]?)⟩
        · have := sc m hm32
          rw [he.1] at this
          exact this
        · rw [h5 _ (by omega), bdsCs_get _ i b hb j hj]
      : InW R wz ∧ ∃ g o, g < wz.heap.size ∧ wz.cell? ⟨R, m, none⟩ = some (.slice (some ⟨g, o, none⟩) (T m).length (c m).2) ∧ ∀ j, j < 11 → wz.cell? ⟨g, o + (i * 11 + j), none⟩ = b.cs[j]?))
    have hm32i : (m : Int) < 32 := by omega
    have hili : (i : Int) < (T m).length := by omega
    clear hf hid hb O hil
    generalize (T m).length = nl at *
    replace h := Lib.hid h
    go_enter Try.func37, Try.ntmps37
    go_upto_region 4 with (go_at_call 55; (with_reducible refine (kH.out _ (by (repeat (first | exact Plus.refl _ | apply Plus.plus | apply Plus.alloc | apply Plus.drew)))).mono ?_); rintro e w' ⟨rfl, ey, rfl⟩)
    obtain ⟨lR, g, o, hgl, s0, hc⟩ := hRx.out wx (Plus.refl wx)
    haveI : InW g wx := ⟨hgl⟩
    have c0 := hc 0 (by omega)
    have c1 : wx.cell? ⟨g, o + i * 11 + 1, none⟩ = _ := hc 1 (by omega)
    have c2 : wx.cell? ⟨g, o + i * 11 + 2, none⟩ = _ := hc 2 (by omega)
    have c3 : wx.cell? ⟨g, o + i * 11 + 3, none⟩ = _ := hc 3 (by omega)
    have c4 : wx.cell? ⟨g, o + i * 11 + 4, none⟩ = _ := hc 4 (by omega)
    have c5 : wx.cell? ⟨g, o + i * 11 + 5, none⟩ = _ := hc 5 (by omega)
    have c6 : wx.cell? ⟨g, o + i * 11 + 6, none⟩ = _ := hc 6 (by omega)
    have c7 : wx.cell? ⟨g, o + i * 11 + 7, none⟩ = _ := hc 7 (by omega)
    have c8 : wx.cell? ⟨g, o + i * 11 + 8, none⟩ = _ := hc 8 (by omega)
    have c9 : wx.cell? ⟨g, o + i * 11 + 9, none⟩ = _ := hc 9 (by omega)
    have c10 : wx.cell? ⟨g, o + i * 11 + 10, none⟩ = _ := hc 10 (by omega)
    simp only [List.getElem?_cons_succ, List.getElem?_cons_zero, Nat.add_zero] at c0 c1 c2 c3 c4 c5 c6 c7 c8 c9 c10
    clear hc hRx hgl hW kH hd
    go_wp2_with fail
    exact bodyPost_ret (v := .tuple #[b.v, nI i, .bool true]) (by simp [results, Try.results37, go_sem]) rfl ⟨rfl, by (repeat (first | exact Plus.refl _ | apply Plus.plus | apply Plus.alloc | apply Plus.drew))⟩
end Go.Proofs.Ytkdagljoiacaaaa
