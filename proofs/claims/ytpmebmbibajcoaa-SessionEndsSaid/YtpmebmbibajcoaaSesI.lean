/- session: the reference's Hear: walk. -/
import Derived.Test.YtpmebmbibajcoaaSesH
import Derived.Test.YtpmebmbibajcoaaSesE
import Derived.Deep.CutBlock
set_option linter.unusedSimpArgs false
set_option linter.unusedVariables false
namespace Go.Proofs.Ytpmebmbibajcoaa
open Go.RowKit
section
variable {W wx : World} {l : List Asn} {M : Nat} {c : Ch} {x : Option Addr × Nat}
theorem Own.refOwes (h : Own W wx (refF M c x ++ l)) (b : Bool) : Own W (wx.setCell ⟨M, 6, none⟩ (.bool b)) (refA M { c with owes := b } :: l) := Own.mk (refF M { c with owes := b }) x (Own.setCell (i := 6) h (by simp))
theorem Own.refMet (h : Own W wx (refF M c x ++ l)) (b : Bool) : Own W (wx.setCell ⟨M, 5, none⟩ (.bool b)) (refA M { c with met := b } :: l) := Own.mk (refF M { c with met := b }) x (Own.setCell (i := 5) h (by simp))
theorem Own.refLast (h : Own W wx (refF M c x ++ l)) (b : Int) : Own W (wx.setCell ⟨M, 4, none⟩ (.int .i64 b)) (refA M { c with last := b } :: l) := Own.mk (refF M { c with last := b }) x (Own.setCell (i := 4) h (by simp))
/-- the end that begins anew -/
theorem Own.refAnew (h : Own W wx (refF M c x ++ l)) (m : Int) :
    Own W (((((wx.setCell ⟨M, 1, none⟩ (.int .i64 m)).setCell ⟨M, 2, none⟩ (.slice none 0 0)).setCell ⟨M, 3, none⟩ (.int .i64 0)).setCell ⟨M, 4, none⟩ (.int .i64 0)).setCell ⟨M, 5, none⟩ (.bool false)) (refA M ⟨c.mine, m, 1, [], 0, false, c.owes⟩ :: l) := by
  have h1 := Own.setCell (i := 1) (v := .int .i64 m) h (by simp)
  have h2 := Own.setCell (i := 2) (v := .slice none 0 0) h1 (by simp)
  have h3 := Own.setCell (i := 3) (v := .int .i64 0) h2 (by simp)
  have h4 := Own.setCell (i := 4) (v := .int .i64 0) h3 (by simp)
  have h5 := Own.setCell (i := 5) (v := .bool false) h4 (by simp)
  simp only [List.set_cons_succ, List.set_cons_zero] at h5
  have h6 : Own W _ (cellsA M _ :: l) := h5.rot1.drop
  have h7 := (Own.add h6 (Chg.refl _ _) (Q := slA 2 (.slice none 0 0) 0 []) (A := fun _ => False) ⟨fun k => by simp [Value.ownBlock], Sl.nil _ _⟩ (fun _ h => h.elim)).rot1
  exact Own.mk (refF M ⟨c.mine, m, 1, [], 0, false, c.owes⟩) (none, 0) h7
end
def hearO (W : World) (M : Nat) (l : List Asn) (X : Hd × Int × Ch) (e : Ending) (w' : World) : Prop := e = .returned (.tuple #[.string X.1.text, .bool X.1.is, .bool X.1.anew, .int .i64 X.2.1]) ∧ Own W w' (refA M X.2.2 :: l)
set_option maxRecDepth 100000 in
set_option maxHeartbeats 2000000 in
theorem refHear_O {W wx : World} {l : List Asn} {M : Nat} {c : Ch} (h : Own W wx (refA M c :: l)) (p : Post) (hf : 1 ≤ c.first ∧ c.first ≤ 1000000000000000) (hl : 0 ≤ c.last ∧ c.last ≤ 1000000000000000) (hw : c.wait.length ≤ 1000000) :
    Calls Try.prog 20 #[chV M, p.v] wx (hearO W M l (hear c p)) := by
  have hC := fun w => may_any w p
  have hV : hear c p = if okPost p = false then (hd0, 1, c)
    else if p.mine < c.yours then (hd0, 9, c)
    else if p.yours ≠ c.mine then (⟨⟨#[]⟩, false, decide (c.yours < p.mine)⟩, 0, ch2 c p)
    else if 0 < p.seq ∧ p.seq = (ch4 c p).last + 1 then (⟨p.text, true, decide (c.yours < p.mine)⟩, 0, { ch4 c p with last := (ch4 c p).last + 1 })
    else (⟨⟨#[]⟩, false, decide (c.yours < p.mine)⟩, 0, ch4 c p) := rfl
  have O0 := (h.newCells [.int .i64 p.mine, .int .i64 p.yours, .int .i64 p.ack, .int .i64 p.seq, .string p.text] 32)
  have hmay := fun hk : okPost p = true => okPost_bounds hk
  generalize okPost p = K at *
  cases K with
  | false =>
    rw [if_pos rfl] at hV
    replace hC := Lib.hid hC
    replace hV := Lib.hid hV
    clear hmay
    have O1 := fun e => (O0.plus e).drop
    go_enter Try.func20, Try.ntmps20
    go_wp2_with (go_at_call 33; (with_reducible refine (hC.out _).mono ?_); rintro e w' ⟨rfl, x1, rfl⟩)
    refine bodyPost_ret (v := .tuple #[.string ⟨#[]⟩, .bool false, .bool false, .int .i64 1]) (by simp [results, Try.results20, go_sem]) rfl ?_
    rw [hV.out]
    exact ⟨rfl, O1 x1⟩
  | true =>
    obtain ⟨b1, b2, b3, b4⟩ := hmay rfl
    clear hmay
    rw [if_neg (by simp)] at hV
    replace hC := Lib.hid hC
    replace hV := Lib.hid hV
    go_enter Try.func20, Try.ntmps20
    go_upto_region 3 with (go_at_call 33; (with_reducible refine (hC.out _).mono ?_); rintro e w' ⟨rfl, x1, rfl⟩)
    have OX := (O0.plus x1).rot1
    obtain ⟨P, hP⟩ : ∃ P, P = wx.heap.size := ⟨_, rfl⟩
    rw [← hP] at OX ⊢
    obtain ⟨wy, hwy⟩ : ∃ wy, wy = (wx.alloc (.cells #[.int .i64 p.mine, .int .i64 p.yours, .int .i64 p.ack, .int .i64 p.seq, .string p.text] 32)).plus x1 := ⟨_, rfl⟩
    rw [← hwy] at OX ⊢
    clear hwy hP O0 h
    obtain ⟨⟨A0, cap0⟩, OO⟩ := Own.ex OX
    have hAt := Own.refAt OO
    obtain ⟨lM, c0, c1, c2, c3, c4, c5, c6, fM⟩ := hAt
    obtain ⟨lP, qP, fP⟩ := Own.cells 2 OO rfl
    have p0 := qP 0 (by simp)
    have p1 := qP 1 (by simp)
    have p2 := qP 2 (by simp)
    have p3 := qP 3 (by simp)
    have p4 := qP 4 (by simp)
    simp only [List.getElem?_cons_succ, List.getElem?_cons_zero] at p0 p1 p2 p3 p4
    have f1 := fM 1
    have f2 := fM 2
    have f3 := fM 3
    have f4 := fM 4
    have f5 := fM 5
    have f6 := fM 6
    haveI : InW M wy := ⟨lM⟩
    haveI : InW P wy := ⟨lP⟩
    have hMP : ¬ M = P := Own.ne 1 OO rfl
    have hPM : ¬ P = M := fun h => hMP h.symm
    clear qP fP fM
    replace OO := Lib.hid OO

    by_cases hst : p.mine < c.yours
    · have hX := hV.out
      rw [if_pos hst] at hX
      replace hX := Lib.hid hX
      clear hV
      refine wp_region_grow (by kernel_rfl) (by kernel_rfl) ?_
      repeat (go_big_quiet_step (fail))
      refine wpQuiet_nil ?_
      intro ex
      go_wp2_with fail
      refine bodyPost_ret (v := .tuple #[.string ⟨#[]⟩, .bool false, .bool false, .int .i64 9]) (by simp [results, Try.results20, go_sem]) rfl ?_
      rw [hX.out]
      exact ⟨rfl, (OX.plus _).rot1.drop⟩
    have hV1 := hV.out
    rw [if_neg hst] at hV1
    have hst2 : c.yours ≤ p.mine := by omega
    clear hV hst
    replace hV1 := Lib.hid hV1
    refine wp_region_grow (by kernel_rfl) (by kernel_rfl) ?_
    repeat (go_big_quiet_step (fail))
    refine wpQuiet_nil ?_
    intro ex
    go_upto_region 6 with fail
    refine wp_region_grow (by kernel_rfl) (by kernel_rfl) ?_
    repeat (go_big_quiet_step (fail))
    refine wpQuiet_nil ?_
    intro ex
    go_upto_if 28 with (fail)
    go_cut [8] (fun t wz => t = .bool (decide (c.yours < p.mine)) ∧ Own W wz (refA M { ch1 c p with owes := c.owes } :: cellsA P [.int .i64 p.mine, .int .i64 p.yours, .int .i64 p.ack, .int .i64 p.seq, .string p.text] :: l))
    case first =>
      by_cases han : c.yours < p.mine
      · have hanb : decide (c.yours < p.mine) = true := decide_eq_true han
        go_wp2_with fail
        go_meet
        have hm1 : ch1 c p = ⟨c.mine, p.mine, 1, [], 0, false, false⟩ := if_pos han
        rw [hm1]
        refine ⟨by rw [hanb], ?_⟩
        have hq := (Own.refAnew OO.out p.mine)
        repeat (with_reducible apply Own.plus)
        exact hq
      · have hanb : decide (c.yours < p.mine) = false := decide_eq_false han
        go_wp2_with fail
        go_meet
        have hm1 : ch1 c p = c := if_neg (by omega)
        rw [hm1]
        refine ⟨by rw [hanb], ?_⟩
        repeat (with_reducible apply Own.plus)
        exact OX
    clear c0 c1 c2 c3 c4 c5 c6 p0 p1 p2 p3 p4 f1 f2 f3 f4 f5 f6 lM lP hMP hPM OO OX

    obtain ⟨d, hd⟩ : ∃ d : Ch, d = { ch1 c p with owes := c.owes } := ⟨_, rfl⟩
    have hdb : d.mine = c.mine ∧ 1 ≤ d.first ∧ d.first ≤ 1000000000000000 ∧ 0 ≤ d.last ∧ d.last ≤ 1000000000000000 ∧ d.wait.length ≤ 1000000 := by
      rw [hd]; unfold ch1; split
      · simp
      · exact ⟨rfl, hf.1, hf.2, hl.1, hl.2, hw⟩
    have hch4 : ch4 c p = if 0 < hearN (ch3 c p) p then { ch3 c p with wait := (ch3 c p).wait.drop (hearN (ch3 c p) p).toNat, first := (ch3 c p).first + hearN (ch3 c p) p } else ch3 c p := rfl
    have hch3 : ch3 c p = { ch2 c p with met := true } := rfl
    have hch2 : ch2 c p = { d with owes := d.owes || (decide (c.yours < p.mine) || (decide (0 < p.seq) || decide (p.yours ≠ c.mine))) } := by
      rw [hd]; unfold ch2 ch1
      by_cases han : c.yours < p.mine
      · simp [han]
      · simp [han]
    rw [← hd] at hcut
    clear hd
    obtain ⟨rfl, OX⟩ := hcut
    replace hV1 := hV1.out
    generalize hear c p = X at *
    generalize ch4 c p = C4 at *
    generalize ch3 c p = C3 at *
    generalize ch2 c p = C2 at *
    generalize decide (c.yours < p.mine) = an at *
    rw [← hdb.1] at hV1 hch2
    obtain ⟨m0, y0, f0', ws, l0, mt0, ow0⟩ := d
    simp only at hdb hch2 hV1 OX
    obtain ⟨hmm, hf2, hf3, hl2, hl3, hw2⟩ := hdb
    clear hmm hf hl hw hst2
    obtain ⟨pm, py, pa, ps, pt⟩ := p
    simp only at b1 b2 b3 b4 hV1 hch4 hch2 OX
    replace hV1 := Lib.hid hV1
    replace hch4 := Lib.hid hch4
    replace hch3 := Lib.hid hch3
    replace hch2 := Lib.hid hch2
    obtain ⟨⟨A0, cap0⟩, OO⟩ := Own.ex OX
    have hAt := Own.refAt OO
    obtain ⟨lM, c0, c1, c2, c3, c4, c5, c6, fM⟩ := hAt
    obtain ⟨lP, qP, fP⟩ := Own.cells 2 OO rfl
    have p0 := qP 0 (by simp)
    have p1 := qP 1 (by simp)
    have p2 := qP 2 (by simp)
    have p3 := qP 3 (by simp)
    have p4 := qP 4 (by simp)
    simp only [List.getElem?_cons_succ, List.getElem?_cons_zero] at p0 p1 p2 p3 p4
    have f1 := fM 1
    have f2 := fM 2
    have f3 := fM 3
    have f4 := fM 4
    have f5 := fM 5
    have f6 := fM 6
    haveI : InW M wc := ⟨lM⟩
    haveI : InW P wc := ⟨lP⟩
    have hMP : ¬ M = P := Own.ne 1 OO rfl
    have hPM : ¬ P = M := fun h => hMP h.symm
    clear qP fP fM
    replace OO := Lib.hid OO

    dsimp only at c0 c1 c2 c3 c4 c5 c6 p0 p1 p2 p3 p4
    go_upto_region 12 with fail
    go_cut [60] (fun t wz => t = .bool (an || (decide (0 < ps) || decide (py ≠ m0))) ∧ wc.Plus wz)
    case first =>
      cases an with
      | true =>
        have hval := Lib.hid (show (true || (decide (0 < ps) || decide (py ≠ m0))) = true by simp)
        refine wp_region_grow (by kernel_rfl) (by kernel_rfl) ?_
        repeat (go_big_quiet_step (fail))
        refine wpQuiet_nil ?_
        intro ex
        go_wp2_with fail
        go_meet
        exact ⟨by rw [hval.out], _, rfl⟩

      | false =>
        by_cases hps : 0 < ps
        · have hpsb : decide (0 < ps) = true := decide_eq_true hps
          have hval := Lib.hid (show (false || (decide (0 < ps) || decide (py ≠ m0))) = true by rw [hpsb]; simp)
          refine wp_region_grow (by kernel_rfl) (by kernel_rfl) ?_
          repeat (go_big_quiet_step (fail))
          refine wpQuiet_nil ?_
          intro ex
          go_wp2_with fail
          go_meet
          exact ⟨by rw [hval.out], _, rfl⟩

        · have hpsb : decide (0 < ps) = false := decide_eq_false hps
          by_cases hpy : py = m0
          · have hval := Lib.hid (show (false || (decide (0 < ps) || decide (py ≠ m0))) = false by rw [hpsb, decide_eq_false (fun h => h hpy)]; simp)
            have hb1 : (py != m0) = false := by rw [hpy]; simp
            replace hpy := Lib.hid hpy
            refine wp_region_grow (by kernel_rfl) (by kernel_rfl) ?_
            repeat (go_big_quiet_step (fail))
            refine wpQuiet_nil ?_
            intro ex
            go_wp2_with fail
            go_meet
            exact ⟨by rw [hval.out], _, rfl⟩

          · have hval := Lib.hid (show (false || (decide (0 < ps) || decide (py ≠ m0))) = true by rw [hpsb, decide_eq_true hpy]; simp)
            have hb1 : (py != m0) = true := by rw [bne_iff_ne]; exact hpy
            refine wp_region_grow (by kernel_rfl) (by kernel_rfl) ?_
            repeat (go_big_quiet_step (fail))
            refine wpQuiet_nil ?_
            intro ex
            go_wp2_with fail
            go_meet
            exact ⟨by rw [hval.out], _, rfl⟩

    generalize (an || (decide (0 < ps) || decide (py ≠ m0))) = q at *
    obtain ⟨rfl, ex2, rfl⟩ := hcut
    have hset := Lib.hid (Own.refOwes OO.out true)
    go_upto_if 60 with (fail)
    go_cut [] (fun wz => Own W wz (refA M ⟨m0, y0, f0', ws, l0, mt0, ow0 || q⟩ :: cellsA P [.int .i64 pm, .int .i64 py, .int .i64 pa, .int .i64 ps, .string pt] :: l))
    case first =>
      cases q with
      | true =>
        have hval := Lib.hid (show (ow0 || true) = true by simp)
        go_wp2_with fail
        go_meet
        rw [hval.out]
        repeat (with_reducible apply Own.plus)
        with_reducible exact hset.out
      | false =>
        have hval := Lib.hid (show (ow0 || false) = ow0 by simp)
        go_wp2_with fail
        go_meet
        rw [hval.out]
        repeat (with_reducible apply Own.plus)
        with_reducible exact OX
    clear c0 c1 c2 c3 c4 c5 c6 p0 p1 p2 p3 p4 f1 f2 f3 f4 f5 f6 lM lP hMP hPM OO OX

    clear hset
    generalize (ow0 || q) = ow1 at *
    have OX := hcut
    clear hcut
    obtain ⟨⟨A0, cap0⟩, OO⟩ := Own.ex OX
    have hAt := Own.refAt OO
    obtain ⟨lM, c0, c1, c2, c3, c4, c5, c6, fM⟩ := hAt
    obtain ⟨lP, qP, fP⟩ := Own.cells 2 OO rfl
    have p0 := qP 0 (by simp)
    have p1 := qP 1 (by simp)
    have p2 := qP 2 (by simp)
    have p3 := qP 3 (by simp)
    have p4 := qP 4 (by simp)
    simp only [List.getElem?_cons_succ, List.getElem?_cons_zero] at p0 p1 p2 p3 p4
    have f1 := fM 1
    have f2 := fM 2
    have f3 := fM 3
    have f4 := fM 4
    have f5 := fM 5
    have f6 := fM 6
    haveI : InW M wc := ⟨lM⟩
    haveI : InW P wc := ⟨lP⟩
    have hMP : ¬ M = P := Own.ne 1 OO rfl
    have hPM : ¬ P = M := fun h => hMP h.symm
    clear qP fP fM
    replace OO := Lib.hid OO

    dsimp only at c0 c1 c2 c3 c4 c5 c6 p0 p1 p2 p3 p4
    go_upto_region 14 with fail
    refine wp_region_grow (by kernel_rfl) (by kernel_rfl) ?_
    repeat (go_big_quiet_step (fail))
    refine wpQuiet_nil ?_
    intro ex
    by_cases hpy : py = m0
    · subst hpy
      have hpyb : (py != py) = false := by simp
      rw [hpyb]
      go_upto_region 17 with fail
      have hmet := (Own.refMet OO.out true).plus ex
      obtain ⟨wm, hwm⟩ : ∃ wm, wm = (wc.setCell ⟨M, 5, none⟩ (.bool true)).plus ex := ⟨_, rfl⟩
      rw [← hwm] at hmet ⊢
      clear hwm
      clear c0 c1 c2 c3 c4 c5 c6 p0 p1 p2 p3 p4 f1 f2 f3 f4 f5 f6 lM lP hMP hPM OO OX

      obtain ⟨n, hn⟩ : ∃ n : Nat, n = (max 0 (min (pa - f0' + 1) (ws.length : Int))).toNat := ⟨_, rfl⟩
      have hC3 : C3 = ⟨py, y0, f0', ws, l0, true, ow1⟩ := by rw [hch3.out, hch2.out]
      have hC4 : C4 = ⟨py, y0, f0' + n, ws.drop n, l0, true, ow1⟩ := by
        rw [hch4.out, hC3]
        unfold hearN
        simp only
        by_cases h0 : 0 < min (pa - f0' + 1) (ws.length : Int)
        · rw [if_pos h0, show (min (pa - f0' + 1) (ws.length : Int)).toNat = n by omega, show min (pa - f0' + 1) (ws.length : Int) = n by omega]
        · rw [if_neg h0]
          obtain rfl : n = 0 := by omega
          simp
      have hnl : n ≤ ws.length := by omega
      have hge : ∀ k : Nat, k < ws.length → (pa < f0' + k ↔ n ≤ k) := fun k hk => by omega
      replace hC3 := Lib.hid hC3
      replace hC4 := Lib.hid hC4
      replace hn := Lib.hid hn
      replace hge := Lib.hid hge
      obtain ⟨i0, hi0, hz0, hz1, hz2⟩ := info_parts infoNum
      replace hi0 := Lib.hid hi0
      replace hz0 := Lib.hid hz0
      replace hz1 := Lib.hid hz1
      replace hz2 := Lib.hid hz2
      go_upto_block 0 with fail
      go_cut [9] from 75 to 104 (fun v wz => ∃ A cap, v = .slice A (ws.length - n) cap ∧ Own W wz (refA M ⟨py, y0, f0', ws, l0, true, ow1⟩ :: slA 2 (.slice A (ws.length - n) cap) (ws.length - n) (numCs (f0' + n) (ws.drop n)) :: cellsA P [.int .i64 pm, .int .i64 py, .int .i64 pa, .int .i64 ps, .string pt] :: l))
      case first =>
        go_wp2_with fail
        go_loopw [9, 10] (fun v i wr => ∃ (k : Nat) (A : Option Addr) (cap : Nat), k ≤ ws.length ∧ i = .int .i64 k ∧ v = .slice A (k - n) cap ∧ Own W wr (refA M ⟨py, y0, f0', ws, l0, true, ow1⟩ :: slA 2 (.slice A (k - n) cap) (k - n) (numCs (f0' + n) ((ws.take k).drop n)) :: cellsA P [.int .i64 pm, .int .i64 py, .int .i64 pa, .int .i64 ps, .string pt] :: l)) (fun _ i _ => ws.length - (intOf i).toNat)
        case atStart =>
          refine ⟨0, none, 0, Nat.zero_le _, rfl, by rw [Nat.zero_sub], ?_⟩
          have h := (Own.add hmet (Chg.refl _ _) (Q := slA 2 (.slice none 0 0) 0 []) (A := fun _ => False) ⟨fun k => by simp [Value.ownBlock], Sl.nil _ _⟩ (fun _ h => h.elim)).rot1
          simpa [numCs] using h
        case round =>
          clear hmet
          obtain ⟨k, A, cap, hk, rfl, rfl, OX⟩ := hrel
          have hpl := OX.p
          obtain ⟨⟨A0, cap0⟩, OO⟩ := Own.ex OX
          obtain ⟨lM, c0, c1, c2, c3, c4, c5, c6, fM⟩ := Own.refAt OO
          obtain ⟨lP, qP, fP⟩ := Own.cells 3 OO rfl
          have p2 := qP 2 (by simp)
          simp only [List.getElem?_cons_succ, List.getElem?_cons_zero] at p2
          have hsl := Own.sl 1 OO rfl
          haveI : InW M wr := ⟨lM⟩
          haveI : InW P wr := ⟨lP⟩
          clear qP fP fM c0 c1 c3 c4 c5 c6
          dsimp only at c2 hsl
          replace OO := Lib.hid OO
          replace OX := Lib.hid OX
          by_cases hlt : k < ws.length
          · obtain ⟨g, o, rfl, hg, hcells⟩ := hsl.cellsOf (by omega)
            haveI : InW g wr := ⟨hg⟩
            obtain ⟨q0, q1⟩ := numCs_get f0' ws k hlt
            have d0 := (hcells (k * 2) (by omega)).trans q0
            have d1 : wr.cell? ⟨g, o + k * 2 + 1, none⟩ = _ := (hcells (k * 2 + 1) (by omega)).trans q1
            have htk : ws.take (k + 1) = ws.take k ++ [ws.getD k ⟨#[]⟩] := by
              rw [List.take_succ_eq_append_getElem hlt, List.getD_eq_getElem?_getD, List.getElem?_eq_getElem hlt]
              rfl
            generalize ws.getD k ⟨#[]⟩ = y at *
            replace htk := Lib.hid htk
            clear hcells q0 q1 hsl
            go_upto_region 21 with fail
            refine wp_region_grow (by kernel_rfl) (by kernel_rfl) ?_
            repeat (go_big_quiet_step (fail))
            refine wpQuiet_nil ?_
            intro ex
            by_cases hn1 : n ≤ k
            · have hgt : pa < f0' + k := (hge.out k hlt).2 hn1
              have OA := fun e => ((OX.out.rot1.plus e).alloc (.cells #[.int .i64 (f0' + k), .string y] 86))
              replace OA := Lib.hid OA
              go_wp2_with (at_builtin; refine wpList_append_O rfl _ _ 45 45 rfl 86 i0 _ 2 24 underNums hi0.out hz0.out hz1.out hz2.out rfl rfl (OA.out _) rfl (src_num _ _ _ (by simp [go_sem])) (by unfold maxLen; omega) (by omega) ?_; intro A2 cap2 w6 O6)
              go_roundw
              case rel =>
                refine ⟨k + 1, A2, cap2, hlt, by go_num, by rw [show k + 1 - n = k - n + 1 by omega], ?_⟩
                have e : (ws.take (k + 1)).drop n = (ws.take k).drop n ++ [y] := by
                  rw [htk.out, List.drop_append_of_le_length (by rw [List.length_take]; omega)]
                have e2 : numCs (f0' + n) ((ws.take (k + 1)).drop n) = numCs (f0' + n) ((ws.take k).drop n) ++ [.int .i64 (f0' + k), .string y] := by
                  rw [e, numCs_append, List.length_drop, List.length_take]
                  simp only [numCs]
                  rw [show f0' + (n : Int) + ((min k ws.length - n : Nat) : Int) = f0' + k by omega]
                rw [e2, show k + 1 - n = k - n + 1 by omega]
                exact O6.rot1
              case measure => simp [intOf]; omega
            · have hgt : ¬ pa < f0' + k := fun h => hn1 ((hge.out k hlt).1 h)
              go_wp2_with fail
              go_roundw
              case rel =>
                refine ⟨k + 1, A, cap, hlt, by go_num, by rw [show k + 1 - n = 0 by omega, show k - n = 0 by omega], ?_⟩
                have e : (ws.take (k + 1)).drop n = (ws.take k).drop n := by
                  rw [List.drop_eq_nil_of_le (by rw [List.length_take]; omega), List.drop_eq_nil_of_le (by rw [List.length_take]; omega)]
                rw [e, show k + 1 - n = 0 by omega]
                have h := OX.out.plus ex
                rw [show k - n = 0 by omega] at h
                exact h
              case measure => simp [intOf]; omega
          · have hke : k = ws.length := by omega
            subst hke
            have h := OX.out
            rw [List.take_length] at h
            go_wp2_with fail
            go_meet
            exact ⟨A, cap, rfl, h⟩
      clear hmet
      obtain ⟨A, cap, rfl, OZ⟩ := hcut
      obtain ⟨⟨A1, cap1⟩, OY⟩ := Own.ex OZ
      obtain ⟨lM, c0, c1, c2, c3, c4, c5, c6, fM⟩ := Own.refAt OY
      haveI : InW M wc := ⟨lM⟩
      have f2 := fM 2
      have hdl : (ws.drop n).length = ws.length - n := List.length_drop ..
      have OX : Own W (wc.setCell ⟨M, 2, none⟩ (.slice A (ws.length - n) cap)) (refA M ⟨py, y0, f0' + n, ws.drop n, l0, true, ow1⟩ :: cellsA P [.int .i64 pm, .int .i64 py, .int .i64 pa, .int .i64 ps, .string pt] :: l) := by
        have h1 := Own.setCell (i := 2) (v := .slice A (ws.length - n) cap) OY (by simp)
        simp only [List.set_cons_succ, List.set_cons_zero] at h1
        have h2 := h1.rot1.drop
        refine Own.mk (refF M ⟨py, y0, f0' + n, ws.drop n, l0, true, ow1⟩) (A, cap) ?_
        simp only [refF, hdl, List.cons_append, List.nil_append]
        rw [show f0' + (n : Int) - 1 + ((ws.length - n : Nat) : Int) = f0' - 1 + ws.length by omega]
        exact h2
      replace OY := Lib.hid OY
      replace OZ := Lib.hid OZ
      replace hdl := Lib.hid hdl
      clear c0 c1 c3 c4 c5 c6 fM
      go_upto_region 24 with fail
      generalize wc.setCell ⟨M, 2, none⟩ (.slice A (ws.length - n) cap) = wn at OX ⊢
      clear c2 f2 lM OY OZ
      obtain ⟨⟨A0, cap0⟩, OO⟩ := Own.ex OX
      have hAt := Own.refAt OO
      obtain ⟨lM, c0, c1, c2, c3, c4, c5, c6, fM⟩ := hAt
      obtain ⟨lP, qP, fP⟩ := Own.cells 2 OO rfl
      have p0 := qP 0 (by simp)
      have p1 := qP 1 (by simp)
      have p2 := qP 2 (by simp)
      have p3 := qP 3 (by simp)
      have p4 := qP 4 (by simp)
      simp only [List.getElem?_cons_succ, List.getElem?_cons_zero] at p0 p1 p2 p3 p4
      have f1 := fM 1
      have f2 := fM 2
      have f3 := fM 3
      have f4 := fM 4
      have f5 := fM 5
      have f6 := fM 6
      haveI : InW M wn := ⟨lM⟩
      haveI : InW P wn := ⟨lP⟩
      have hMP : ¬ M = P := Own.ne 1 OO rfl
      have hPM : ¬ P = M := fun h => hMP h.symm
      clear qP fP fM
      replace OO := Lib.hid OO

      dsimp only at c0 c1 c2 c3 c4 c5 c6 p0 p1 p2 p3 p4
      have hX0 := hV1.out
      rw [if_neg (by simp), hC4.out] at hX0
      simp only at hX0
      by_cases hm : 0 < ps ∧ ps = l0 + 1
      · rw [if_pos hm] at hX0
        have hX := Lib.hid hX0
        clear hX0
        obtain ⟨hm1, hm2⟩ := hm
        have hm1b : (ps == 0) = false := by rw [beq_eq_false_iff_ne]; omega
        have hm2b : (ps != l0 + 1) = false := by rw [hm2]; simp
        have hset := Lib.hid (Own.refLast OO.out ps)
        replace hm2 := Lib.hid hm2
        refine wp_region_grow (by kernel_rfl) (by kernel_rfl) ?_
        repeat (go_big_quiet_step (fail))
        refine wpQuiet_nil ?_
        intro ex
        go_wp2_with fail
        refine bodyPost_ret (v := .tuple #[.string pt, .bool true, .bool an, .int .i64 0]) (by simp [results, Try.results20, go_sem]) rfl ?_
        rw [hX.out]
        refine ⟨rfl, ?_⟩
        rw [← hm2.out]
        have h7 := (hset.out.plus ex).rot1.drop
        exact h7
      · rw [if_neg hm] at hX0
        have hX := Lib.hid hX0
        clear hX0
        by_cases hm1 : ps = 0
        · have hm1b : (ps == 0) = true := by rw [hm1]; rfl
          replace hm := Lib.hid hm
          replace hm1 := Lib.hid hm1
          refine wp_region_grow (by kernel_rfl) (by kernel_rfl) ?_
          repeat (go_big_quiet_step (fail))
          refine wpQuiet_nil ?_
          intro ex
          go_wp2_with fail
          refine bodyPost_ret (v := .tuple #[.string ⟨#[]⟩, .bool false, .bool an, .int .i64 0]) (by simp [results, Try.results20, go_sem]) rfl ?_
          rw [hX.out]
          exact ⟨rfl, (OX.plus _).rot1.drop⟩
        · have hm1b : (ps == 0) = false := by rw [beq_eq_false_iff_ne]; exact hm1
          have hm2b : (ps != l0 + 1) = true := by rw [bne_iff_ne]; intro e; exact hm ⟨by omega, e⟩
          replace hm := Lib.hid hm
          replace hm1 := Lib.hid hm1
          refine wp_region_grow (by kernel_rfl) (by kernel_rfl) ?_
          repeat (go_big_quiet_step (fail))
          refine wpQuiet_nil ?_
          intro ex
          go_wp2_with fail
          refine bodyPost_ret (v := .tuple #[.string ⟨#[]⟩, .bool false, .bool an, .int .i64 0]) (by simp [results, Try.results20, go_sem]) rfl ?_
          rw [hX.out]
          exact ⟨rfl, (OX.plus _).rot1.drop⟩
    · have hX0 := hV1.out
      rw [if_pos hpy, hch2.out] at hX0
      have hX := Lib.hid hX0
      clear hX0
      have hpyb : (py != m0) = true := by rw [bne_iff_ne]; exact hpy
      go_wp2_with fail
      refine bodyPost_ret (v := .tuple #[.string ⟨#[]⟩, .bool false, .bool an, .int .i64 0]) (by simp [results, Try.results20, go_sem]) rfl ?_
      rw [hX.out]
      exact ⟨rfl, (OX.plus _).rot1.drop⟩
end Go.Proofs.Ytpmebmbibajcoaa
