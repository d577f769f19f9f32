/- session: Hear: walk. -/
import Derived.Test.YtpmebmbibajcoaaSes4
set_option linter.unusedSimpArgs false
set_option linter.unusedVariables false
namespace Go.Proofs.Ytpmebmbibajcoaa
open Go.RowKit
section
variable (w : World) (N : Nat) (c : Ch) (S : Nat → Prop) (p : Post)
def HearPost (w : World) (N : Nat) (S : Nat → Prop) (x : Hd × Int × Ch) (e : Ending) (w' : World) : Prop := ChPost w N S (.tuple #[x.1.v, .int .i64 x.2.1]) x.2.2 e w'
set_option maxRecDepth 100000 in
set_option maxHeartbeats 2000000 in
theorem hear_any (h : ChAt w N c S) (hf1 : 1 ≤ c.first ∧ c.first ≤ 1000000000000000) (hl1 : 0 ≤ c.last ∧ c.last ≤ 1000000000000000) (hw1 : c.wait.length ≤ 1000000) :
    Calls Try.prog 12 #[chV N, p.v] w (HearPost w N S (hear c p)) := by
  have hV : hear c p = if okPost p = false then (hd0, 1, c) else if p.mine < c.yours then (hd0, 9, c) else if p.yours ≠ c.mine then (⟨⟨#[]⟩, false, decide (c.yours < p.mine)⟩, 0, ch2 c p)
    else if 0 < p.seq ∧ p.seq = (ch4 c p).last + 1 then (⟨p.text, true, decide (c.yours < p.mine)⟩, 0, { ch4 c p with last := (ch4 c p).last + 1 }) else (⟨⟨#[]⟩, false, decide (c.yours < p.mine)⟩, 0, ch4 c p) := rfl
  have hK := fun w => check_any w p
  have hh := Lib.hid h
  obtain ⟨lt, sub, own, c0, c1, c2, c4, c5, c6, hf, A0, cap0, c3, hs, hg⟩ := h
  haveI : InW N w := ⟨lt⟩
  replace hs := Lib.hid hs
  replace hg := Lib.hid hg
  replace sub := Lib.hid sub
  replace hf := Lib.hid hf
  cases hok : okPost p with
  | false =>
    rw [if_pos hok] at hV
    rw [hV]
    rw [hok] at hK
    simp only [Bool.false_eq_true, if_false] at hK
    replace hok := Lib.hid hok
    replace hK := Lib.hid hK
    clear hV
    go_enter Try.func12, Try.ntmps12
    go_wp2_with (first | (go_at_call 30; (with_reducible refine (hK.out _).mono ?_); rintro e w' ⟨rfl, ey, rfl⟩))
    refine bodyPost_ret (v := .tuple #[.agg #[.string ⟨#[]⟩, .bool false, .bool false], .int .i64 1]) (by simp [results, Try.results12, go_sem]) rfl ?_
    exact ChPost.of_plus hh.out _ (by (repeat (first | exact Plus.refl _ | apply Plus.plus | apply Plus.alloc | apply Plus.drew)))
  | true =>
    rw [if_neg (by rw [hok]; simp)] at hV
    rw [hok] at hK
    simp only [if_true] at hK
    have hpb := okPost_bounds hok
    have hpb2 := hpb
    replace hok := Lib.hid hok
    replace hK := Lib.hid hK
    go_enter Try.func12, Try.ntmps12
    go_upto_region 4 with (first | (go_at_call 30; (with_reducible refine (hK.out _).mono ?_); rintro e w' ⟨rfl, ey, rfl⟩))
    obtain ⟨P, hP⟩ : ∃ P, P = w.heap.size := ⟨_, rfl⟩
    obtain ⟨R, hR⟩ : ∃ R, R = w.heap.size + 1 := ⟨_, rfl⟩
    obtain ⟨H, hH⟩ : ∃ H, H = w.heap.size + 1 + 1 := ⟨_, rfl⟩
    obtain ⟨hr, hfo⟩ := Hr.start hh.out p ey hP hR (by omega : H = w.heap.size + 2)
    obtain ⟨wx, hwx⟩ : ∃ wx, wx = (((w.alloc (.cells #[.int .i64 p.mine, .int .i64 p.yours, .int .i64 p.ack, .int .i64 p.seq, .string p.text] 32)).alloc (.cells #[.string ⟨#[]⟩, .bool false, .bool false] 28)).alloc (.cells #[.string ⟨#[]⟩, .bool false, .bool false] 28)).plus ey := ⟨_, rfl⟩
    rw [← hwx] at hr
    rw [← hH, ← hR, ← hP, ← hwx]
    clear hwx hP c0 c1 c2 c4 c5 c6 hf c3 hs hg lt
    have hRw : w.heap.size ≤ R := by omega
    have hHw : w.heap.size ≤ H := by omega
    have hSH : ¬ S H := fun h => by have := sub.out H h; omega
    replace hSH := Lib.hid hSH
    have hSR : ¬ S R := fun h => by have := sub.out R h; omega
    replace hR := Lib.hid hR
    replace hH := Lib.hid hH
    replace hSR := Lib.hid hSR
    have e1 : ¬ P = N := hfo.pn
    have e2 : ¬ N = P := fun h => hfo.pn h.symm
    have e3 : ¬ R = N := hfo.rn
    have e4 : ¬ N = R := fun h => hfo.rn h.symm
    have e5 : ¬ H = N := hfo.hn
    have e6 : ¬ N = H := fun h => hfo.hn h.symm
    have e7 : ¬ P = H := hfo.ph
    have e8 : ¬ H = P := fun h => hfo.ph h.symm
    have e9 : ¬ R = H := hfo.rh
    have e10 : ¬ H = R := fun h => hfo.rh h.symm
    replace hfo := Lib.hid hfo
    by_cases hst : p.mine < c.yours
    · rw [if_pos hst] at hV
      have hX := Lib.hid hV
      clear hV
      have hrk := Lib.hid hr
      obtain ⟨⟨lt, sub2, own2, c0, c1, c2, c4, c5, c6, hf, A0, cap0, c3, hs, hg⟩, chg, ltP, ltR, ltH, p0, p1, p2, p3, p4, h0, h1, h2, r0, r1, r2, hHf, hRf⟩ := hr
      haveI : InW N wx := ⟨lt⟩
      haveI : InW P wx := ⟨ltP⟩
      haveI : InW R wx := ⟨ltR⟩
      haveI : InW H wx := ⟨ltH⟩
      have f0 := hf 0
      have f1 := hf 1
      have f2 := hf 2
      have f3 := hf 3
      have f4 := hf 4
      have f5 := hf 5
      have f6 := hf 6
      have g0 := hHf 0
      have g1 := hHf 1
      have g2 := hHf 2
      have q0 := hRf 0
      have q1 := hRf 1
      have q2 := hRf 2
      replace hf := Lib.hid hf
      replace hHf := Lib.hid hHf
      replace hRf := Lib.hid hRf
      replace hs := Lib.hid hs
      replace hg := Lib.hid hg
      replace sub2 := Lib.hid sub2
      replace chg := Lib.hid chg

      refine wp_region_grow (by kernel_rfl) (by kernel_rfl) ?_
      repeat (go_big_quiet_step (fail))
      refine wpQuiet_nil ?_
      intro ex
      go_wp2_with fail
      refine bodyPost_ret (v := .tuple #[.agg #[.string ⟨#[]⟩, .bool false, .bool false], .int .i64 9]) (by simp [results, Try.results12, go_sem, *]) rfl ?_
      rw [HearPost, hX.out]
      exact (hrk.out.done hRw hSR.out _ _ _ _).plus _
    rw [if_neg hst] at hV
    have hst2 : c.yours ≤ p.mine := by omega
    have hr1 := hr
    have hrk := Lib.hid hr
    obtain ⟨⟨lt, sub2, own2, c0, c1, c2, c4, c5, c6, hf, A0, cap0, c3, hs, hg⟩, chg, ltP, ltR, ltH, p0, p1, p2, p3, p4, h0, h1, h2, r0, r1, r2, hHf, hRf⟩ := hr
    haveI : InW N wx := ⟨lt⟩
    haveI : InW P wx := ⟨ltP⟩
    haveI : InW R wx := ⟨ltR⟩
    haveI : InW H wx := ⟨ltH⟩
    have f0 := hf 0
    have f1 := hf 1
    have f2 := hf 2
    have f3 := hf 3
    have f4 := hf 4
    have f5 := hf 5
    have f6 := hf 6
    have g0 := hHf 0
    have g1 := hHf 1
    have g2 := hHf 2
    have q0 := hRf 0
    have q1 := hRf 1
    have q2 := hRf 2
    replace hf := Lib.hid hf
    replace hHf := Lib.hid hHf
    replace hRf := Lib.hid hRf
    replace hs := Lib.hid hs
    replace hg := Lib.hid hg
    replace sub2 := Lib.hid sub2
    replace chg := Lib.hid chg

    refine wp_region_grow (by kernel_rfl) (by kernel_rfl) ?_
    repeat (go_big_quiet_step (fail))
    refine wpQuiet_nil ?_
    intro ex
    go_upto_region 6 with fail
    refine wp_region_grow (by kernel_rfl) (by kernel_rfl) ?_
    repeat (go_big_quiet_step (fail))
    refine wpQuiet_nil ?_
    intro ex
    go_upto_if 32 with (fail)
    go_cut [] (fun wy => Hr w N S P R H (ch1 c p) p ⟨⟨#[]⟩, false, decide (c.yours < p.mine)⟩ wy)
    case first =>
      by_cases han : c.yours < p.mine
      · go_upto_region 7 with fail
        refine wp_region_grow_tail 9 (by kernel_rfl) (by kernel_rfl) ?_
        simp only [List.take_succ_cons, List.take_zero, List.drop_succ_cons, List.drop_zero]
        repeat (go_big_quiet_step (fail))
        refine wpQuiet_nil ?_
        intro ex
        go_wp2_with fail
        go_meet
        have hm1 : ch1 c p = ⟨c.mine, p.mine, 1, [], 0, false, false⟩ := if_pos han
        rw [hm1, decide_eq_true han]
        have k0 := hrk.out
        have k1 := k0.setN hfo.out (k0.ch.set0 c.mine)
        have k2 := k1.setN hfo.out (k1.ch.set1 p.mine)
        have k3 := k2.setN hfo.out (k2.ch.set2 1)
        have k4 := k3.setN hfo.out k3.ch.set3nil
        have k5 := k4.setN hfo.out (k4.ch.set4 0)
        have k6 := k5.setN hfo.out (k5.ch.set5 false)
        have k7 := k6.setN hfo.out (k6.ch.set6 false)
        have k8 : Hr w N S P R H ⟨c.mine, p.mine, 1, [], 0, false, false⟩ p ⟨⟨#[]⟩, false, true⟩ _ := k7.setH2 hfo.out hHw hSH.out true
        repeat (with_reducible apply Hr.plus)
        with_reducible exact k8
      · have hanb : decide (c.yours < p.mine) = false := decide_eq_false han
        go_wp2_with fail
        go_meet
        have hm1 : ch1 c p = c := if_neg (by omega)
        rw [hm1, hanb]
        repeat (with_reducible apply Hr.plus)
        with_reducible exact hrk.out
    clear e2 e4 e6 e8 e10 c0 c1 c2 c4 c5 c6 c3 lt own2 p0 p1 p2 p3 p4 h0 h1 h2 r0 r1 r2 g0 g1 g2 q0 q1 q2 f0 f1 f2 f3 f4 f5 f6 ltP ltR ltH hrk chg sub2 hs hg hf hHf hRf hr1
    have e2 : ¬ N = P := fun h => e1 h.symm
    have e4 : ¬ N = R := fun h => e3 h.symm
    have e6 : ¬ N = H := fun h => e5 h.symm
    have e8 : ¬ H = P := fun h => e7 h.symm
    have e10 : ¬ H = R := fun h => e9 h.symm
    obtain ⟨d, hd⟩ : ∃ d, d = ch1 c p := ⟨_, rfl⟩
    have hdb : d.mine = c.mine ∧ 1 ≤ d.first ∧ d.first ≤ 1000000000000000 ∧ 0 ≤ d.last ∧ d.last ≤ 1000000000000000 ∧ d.wait.length ≤ 1000000 := by
      rw [hd]; unfold ch1; split
      · simp
      · exact ⟨rfl, hf1.1, hf1.2, hl1.1, hl1.2, hw1⟩
    have hch4 : ch4 c p = if 0 < hearN (ch3 c p) p then { ch3 c p with wait := (ch3 c p).wait.drop (hearN (ch3 c p) p).toNat, first := (ch3 c p).first + hearN (ch3 c p) p } else ch3 c p := rfl
    have hch3 : ch3 c p = { ch2 c p with met := true } := rfl
    have hch2 : ch2 c p = { d with owes := d.owes || (decide (c.yours < p.mine) || (decide (0 < p.seq) || decide (p.yours ≠ c.mine))) } := by rw [hd]; rfl
    rw [← hd] at hcut
    clear hd
    generalize hear c p = X at *
    generalize ch4 c p = C4 at *
    generalize ch3 c p = C3 at *
    generalize ch2 c p = C2 at *
    generalize decide (c.yours < p.mine) = an at *
    rw [← hdb.1] at hV hch2
    obtain ⟨m0, y0, f0', ws, l0, mt0, ow0⟩ := d
    simp only at hdb hch2 hV hcut
    obtain ⟨hmm, hf2, hf3, hl2, hl3, hw2⟩ := hdb
    clear hmm
    clear hf1 hl1 hw1 hst hst2 hpb
    obtain ⟨pm, py, pa, ps, pt⟩ := p
    simp only at hpb2 hV hch4 hch2 hcut
    replace hV := Lib.hid hV
    replace hch4 := Lib.hid hch4
    replace hch3 := Lib.hid hch3
    replace hch2 := Lib.hid hch2
    have hr := hcut
    clear hcut
    have hrk := Lib.hid hr
    obtain ⟨⟨lt, sub2, own2, c0, c1, c2, c4, c5, c6, hf, A0, cap0, c3, hs, hg⟩, chg, ltP, ltR, ltH, p0, p1, p2, p3, p4, h0, h1, h2, r0, r1, r2, hHf, hRf⟩ := hr
    haveI : InW N wc := ⟨lt⟩
    haveI : InW P wc := ⟨ltP⟩
    haveI : InW R wc := ⟨ltR⟩
    haveI : InW H wc := ⟨ltH⟩
    have f0 := hf 0
    have f1 := hf 1
    have f2 := hf 2
    have f3 := hf 3
    have f4 := hf 4
    have f5 := hf 5
    have f6 := hf 6
    have g0 := hHf 0
    have g1 := hHf 1
    have g2 := hHf 2
    have q0 := hRf 0
    have q1 := hRf 1
    have q2 := hRf 2
    replace hf := Lib.hid hf
    replace hHf := Lib.hid hHf
    replace hRf := Lib.hid hRf
    replace hs := Lib.hid hs
    replace hg := Lib.hid hg
    replace sub2 := Lib.hid sub2
    replace chg := Lib.hid chg

    dsimp only at c0 c1 c2 c3 c4 c5 c6 p0 p1 p2 p3 p4 h0 h1 h2
    go_upto_region 9 with fail
    go_cut [] (fun wy => Hr w N S P R H ⟨m0, y0, f0', ws, l0, mt0, ow0 || (an || (decide (0 < ps) || decide (py ≠ m0)))⟩ ⟨pm, py, pa, ps, pt⟩ ⟨⟨#[]⟩, false, an⟩ wy)
    case first =>
      cases ow0 with
      | true =>
        have hval := Lib.hid (show (true || (an || (decide (0 < ps) || decide (py ≠ m0)))) = true from rfl)
        refine wp_region_grow_tail 25 (by kernel_rfl) (by kernel_rfl) ?_
        simp only [List.take_succ_cons, List.take_zero, List.drop_succ_cons, List.drop_zero]
        repeat (go_big_quiet_step (fail))
        refine wpQuiet_nil ?_
        intro ex
        go_wp2_with fail
        go_meet
        rw [hval.out]
        repeat (with_reducible apply Hr.plus)
        exact hrk.out.setN hfo.out (hrk.out.ch.set6 true)

      | false =>
        cases an with
        | true =>
          have hval := Lib.hid (show (false || (true || (decide (0 < ps) || decide (py ≠ m0)))) = true from rfl)
          refine wp_region_grow_tail 25 (by kernel_rfl) (by kernel_rfl) ?_
          simp only [List.take_succ_cons, List.take_zero, List.drop_succ_cons, List.drop_zero]
          repeat (go_big_quiet_step (fail))
          refine wpQuiet_nil ?_
          intro ex
          go_wp2_with fail
          go_meet
          rw [hval.out]
          repeat (with_reducible apply Hr.plus)
          exact hrk.out.setN hfo.out (hrk.out.ch.set6 true)

        | false =>
          by_cases hps : 0 < ps
          · have hval := Lib.hid (show (false || (false || (decide (0 < ps) || decide (py ≠ m0)))) = true by rw [decide_eq_true hps]; rfl)
            refine wp_region_grow_tail 25 (by kernel_rfl) (by kernel_rfl) ?_
            simp only [List.take_succ_cons, List.take_zero, List.drop_succ_cons, List.drop_zero]
            repeat (go_big_quiet_step (fail))
            refine wpQuiet_nil ?_
            intro ex
            go_wp2_with fail
            go_meet
            rw [hval.out]
            repeat (with_reducible apply Hr.plus)
            exact hrk.out.setN hfo.out (hrk.out.ch.set6 true)

          · have hpsb : decide (0 < ps) = false := decide_eq_false hps
            by_cases hpy : py = m0
            · have hval := Lib.hid (show (false || (false || (decide (0 < ps) || decide (py ≠ m0)))) = false by rw [hpsb, decide_eq_false (fun h => h hpy)]; rfl)
              have hb1 : (py != m0) = false := by rw [hpy]; simp
              replace hpy := Lib.hid hpy
              refine wp_region_grow_tail 25 (by kernel_rfl) (by kernel_rfl) ?_
              simp only [List.take_succ_cons, List.take_zero, List.drop_succ_cons, List.drop_zero]
              repeat (go_big_quiet_step (fail))
              refine wpQuiet_nil ?_
              intro ex
              go_wp2_with fail
              go_meet
              rw [hval.out]
              repeat (with_reducible apply Hr.plus)
              exact hrk.out.setN hfo.out (hrk.out.ch.set6 false)

            · have hval := Lib.hid (show (false || (false || (decide (0 < ps) || decide (py ≠ m0)))) = true by rw [hpsb, decide_eq_true hpy]; rfl)
              have hb1 : (py != m0) = true := by rw [bne_iff_ne]; exact hpy
              refine wp_region_grow_tail 25 (by kernel_rfl) (by kernel_rfl) ?_
              simp only [List.take_succ_cons, List.take_zero, List.drop_succ_cons, List.drop_zero]
              repeat (go_big_quiet_step (fail))
              refine wpQuiet_nil ?_
              intro ex
              go_wp2_with fail
              go_meet
              rw [hval.out]
              repeat (with_reducible apply Hr.plus)
              exact hrk.out.setN hfo.out (hrk.out.ch.set6 true)

    clear c0 c1 c2 c4 c5 c6 c3 lt own2 p0 p1 p2 p3 p4 h0 h1 h2 r0 r1 r2 g0 g1 g2 q0 q1 q2 f0 f1 f2 f3 f4 f5 f6 ltP ltR ltH hrk chg sub2 hs hg hf hHf hRf

    generalize (ow0 || (an || (decide (0 < ps) || decide (py ≠ m0)))) = ow1 at *
    have hr := hcut
    clear hcut
    have hrk := Lib.hid hr
    obtain ⟨⟨lt, sub2, own2, c0, c1, c2, c4, c5, c6, hf, A0, cap0, c3, hs, hg⟩, chg, ltP, ltR, ltH, p0, p1, p2, p3, p4, h0, h1, h2, r0, r1, r2, hHf, hRf⟩ := hr
    haveI : InW N wc := ⟨lt⟩
    haveI : InW P wc := ⟨ltP⟩
    haveI : InW R wc := ⟨ltR⟩
    haveI : InW H wc := ⟨ltH⟩
    have f0 := hf 0
    have f1 := hf 1
    have f2 := hf 2
    have f3 := hf 3
    have f4 := hf 4
    have f5 := hf 5
    have f6 := hf 6
    have g0 := hHf 0
    have g1 := hHf 1
    have g2 := hHf 2
    have q0 := hRf 0
    have q1 := hRf 1
    have q2 := hRf 2
    replace hf := Lib.hid hf
    replace hHf := Lib.hid hHf
    replace hRf := Lib.hid hRf
    replace hs := Lib.hid hs
    replace hg := Lib.hid hg
    replace sub2 := Lib.hid sub2
    replace chg := Lib.hid chg

    dsimp only at c0 c1 c2 c3 c4 c5 c6 p0 p1 p2 p3 p4 h0 h1 h2
    go_upto_region 10 with fail
    refine wp_region_grow (by kernel_rfl) (by kernel_rfl) ?_
    repeat (go_big_quiet_step (fail))
    refine wpQuiet_nil ?_
    intro ex
    by_cases hpy : py = m0
    · subst hpy
      have hpyb : (py != py) = false := by simp
      go_upto_region 12 with fail
      go_cut [] (fun wy => Hr w N S P R H ⟨py, y0, f0', ws, l0, true, ow1⟩ ⟨pm, py, pa, ps, pt⟩ ⟨⟨#[]⟩, false, an⟩ wy)
      case first =>
        go_wp2_with fail
        go_meet
        repeat (with_reducible apply Hr.plus)
        exact hrk.out.setN hfo.out (hrk.out.ch.set5 true)
      clear c0 c1 c2 c4 c5 c6 c3 lt own2 p0 p1 p2 p3 p4 h0 h1 h2 r0 r1 r2 g0 g1 g2 q0 q1 q2 f0 f1 f2 f3 f4 f5 f6 ltP ltR ltH hrk chg sub2 hs hg hf hHf hRf

      have hr := hcut
      clear hcut
      have hrk := Lib.hid hr
      obtain ⟨⟨lt, sub2, own2, c0, c1, c2, c4, c5, c6, hf, A0, cap0, c3, hs, hg⟩, chg, ltP, ltR, ltH, p0, p1, p2, p3, p4, h0, h1, h2, r0, r1, r2, hHf, hRf⟩ := hr
      haveI : InW N wc := ⟨lt⟩
      haveI : InW P wc := ⟨ltP⟩
      haveI : InW R wc := ⟨ltR⟩
      haveI : InW H wc := ⟨ltH⟩
      have f0 := hf 0
      have f1 := hf 1
      have f2 := hf 2
      have f3 := hf 3
      have f4 := hf 4
      have f5 := hf 5
      have f6 := hf 6
      have g0 := hHf 0
      have g1 := hHf 1
      have g2 := hHf 2
      have q0 := hRf 0
      have q1 := hRf 1
      have q2 := hRf 2
      replace hf := Lib.hid hf
      replace hHf := Lib.hid hHf
      replace hRf := Lib.hid hRf
      replace hs := Lib.hid hs
      replace hg := Lib.hid hg
      replace sub2 := Lib.hid sub2
      replace chg := Lib.hid chg

      dsimp only at c0 c1 c2 c3 c4 c5 c6 p0 p1 p2 p3 p4 h0 h1 h2
      go_upto_region 13 with fail
      go_cut [7] (fun t wy => t = .int .i64 (min (pa - f0' + 1) (ws.length : Int)) ∧ Hr w N S P R H ⟨py, y0, f0', ws, l0, true, ow1⟩ ⟨pm, py, pa, ps, pt⟩ ⟨⟨#[]⟩, false, an⟩ wy)
      case first =>
        refine wp_region_grow_tail 13 (by kernel_rfl) (by kernel_rfl) ?_
        simp only [List.take_succ_cons, List.take_zero, List.drop_succ_cons, List.drop_zero]
        repeat (go_big_quiet_step (fail))
        refine wpQuiet_nil ?_
        intro ex
        go_wp2_with fail
        go_meet
        refine ⟨rfl, ?_⟩
        repeat (with_reducible apply Hr.plus)
        exact hrk.out
      clear c0 c1 c2 c4 c5 c6 c3 lt own2 p0 p1 p2 p3 p4 h0 h1 h2 r0 r1 r2 g0 g1 g2 q0 q1 q2 f0 f1 f2 f3 f4 f5 f6 ltP ltR ltH hrk chg sub2 hs hg hf hHf hRf

      obtain ⟨rfl, hr⟩ := hcut
      obtain ⟨n, hn⟩ : ∃ n, n = min (pa - f0' + 1) (ws.length : Int) := ⟨_, rfl⟩
      rw [← hn]
      have hnb : n ≤ ws.length := by omega
      have hC3 : C3 = ⟨py, y0, f0', ws, l0, true, ow1⟩ := by rw [hch3.out, hch2.out]
      obtain ⟨E, hE⟩ : ∃ E : Ch, E = if 0 < n then ⟨py, y0, f0' + n, ws.drop n.toNat, l0, true, ow1⟩ else ⟨py, y0, f0', ws, l0, true, ow1⟩ := ⟨_, rfl⟩
      have hC4 : C4 = E := by
        rw [hch4.out, hC3, show hearN ⟨py, y0, f0', ws, l0, true, ow1⟩ ⟨pm, py, pa, ps, pt⟩ = n from hn.symm, hE]
      replace hC3 := Lib.hid hC3
      replace hC4 := Lib.hid hC4
      replace hE := Lib.hid hE
      replace hn := Lib.hid hn
      have hrk := Lib.hid hr
      obtain ⟨⟨lt, sub2, own2, c0, c1, c2, c4, c5, c6, hf, A0, cap0, c3, hs, hg⟩, chg, ltP, ltR, ltH, p0, p1, p2, p3, p4, h0, h1, h2, r0, r1, r2, hHf, hRf⟩ := hr
      haveI : InW N wc := ⟨lt⟩
      haveI : InW P wc := ⟨ltP⟩
      haveI : InW R wc := ⟨ltR⟩
      haveI : InW H wc := ⟨ltH⟩
      have f0 := hf 0
      have f1 := hf 1
      have f2 := hf 2
      have f3 := hf 3
      have f4 := hf 4
      have f5 := hf 5
      have f6 := hf 6
      have g0 := hHf 0
      have g1 := hHf 1
      have g2 := hHf 2
      have q0 := hRf 0
      have q1 := hRf 1
      have q2 := hRf 2
      replace hf := Lib.hid hf
      replace hHf := Lib.hid hHf
      replace hRf := Lib.hid hRf
      replace hs := Lib.hid hs
      replace hg := Lib.hid hg
      replace sub2 := Lib.hid sub2
      replace chg := Lib.hid chg

      dsimp only at c0 c1 c2 c3 c4 c5 c6 p0 p1 p2 p3 p4 h0 h1 h2
      go_upto_if 94 with (fail)
      go_cut [] (fun wy => Hr w N S P R H E ⟨pm, py, pa, ps, pt⟩ ⟨⟨#[]⟩, false, an⟩ wy)
      case first =>
        by_cases h0n : 0 < n
        · obtain ⟨k, rfl⟩ : ∃ k : Nat, n = k := ⟨n.toNat, by omega⟩
          have hk0 : 0 < k := by omega
          have hkl : k ≤ ws.length := by omega
          have hEk : E = ⟨py, y0, f0' + k, ws.drop k, l0, true, ow1⟩ := by rw [hE.out, if_pos h0n]; rfl
          replace hEk := Lib.hid hEk
          have hsl := hs.out
          rcases hsl.val with ⟨_, hz⟩ | ⟨g, off, cap, he, hgl, hcap1, hmx, hcells, hspare⟩
          · exact absurd hz (by dsimp only; omega)
          cases he
          dsimp only at hsl hcap1
          have e : ws.length - k = (ws.drop k).length := (List.length_drop ..).symm
          have hcut3 := hsl.cut k (off + k) (ws.length - k) (by omega) (fun _ => by omega) ⟨by omega, by omega⟩
          have hcB := hsl.cut k off 0
          rw [Nat.mul_one, ← List.map_drop] at hcut3 hcB
          simp only [e] at hcut3
          have k1 := hrk.out.setN hfo.out (hrk.out.ch.set3 (ws.drop k) _ _ hcut3 (fun g' h => hg.out g' h))
          have k2 := k1.setN hfo.out (k1.ch.set2 (f0' + k))
          clear k1 hcut3
          replace e := Lib.hid e
          replace k2 := Lib.hid k2
          replace hcB := Lib.hid hcB
          replace hsl := Lib.hid hsl
          clear hcells hspare
          unfold maxLen at hmx
          go_upto_region 15 with fail
          refine wp_region_grow_tail 19 (by kernel_rfl) (by kernel_rfl) ?_
          simp only [List.take_succ_cons, List.take_zero, List.drop_succ_cons, List.drop_zero]
          repeat (go_big_quiet_step (fail))
          refine wpQuiet_nil ?_
          intro ex
          go_wp2_with fail
          all_goals go_meet
          all_goals rw [hEk.out]
          all_goals repeat (with_reducible apply Hr.plus)
          all_goals first
            | (simp only [e.out]; exact k2.out)
            | (have hd : ws.drop k = [] := List.drop_eq_nil_of_le (by omega)
               rw [hd]
               have hcB2 := hcB.out (by omega) (fun h => by omega) ⟨by omega, by omega⟩
               rw [hd, show ws.length - k = 0 by omega] at hcB2
               have k3 := hrk.out.setN hfo.out (hrk.out.ch.set3 [] _ _ hcB2 (fun g' h => hg.out g' h))
               exact k3.setN hfo.out (k3.ch.set2 (f0' + k)))
        · have hEk : E = ⟨py, y0, f0', ws, l0, true, ow1⟩ := by rw [hE.out, if_neg h0n]
          replace hEk := Lib.hid hEk
          go_wp2_with fail
          go_meet
          rw [hEk.out]
          repeat (with_reducible apply Hr.plus)
          with_reducible exact hrk.out
      clear c0 c1 c2 c4 c5 c6 c3 lt own2 p0 p1 p2 p3 p4 h0 h1 h2 r0 r1 r2 g0 g1 g2 q0 q1 q2 f0 f1 f2 f3 f4 f5 f6 ltP ltR ltH hrk chg sub2 hs hg hf hHf hRf

      have hr := hcut
      clear hcut
      have hEl : E.last = l0 := by rw [hE.out]; split <;> rfl
      obtain ⟨em, ey', ef, ew, el, emt, eo⟩ := E
      simp only at hEl
      subst hEl
      have hX0 := hV.out
      rw [if_neg (by simp), hC4.out] at hX0
      simp only at hX0
      clear hE
      have hrk := Lib.hid hr
      obtain ⟨⟨lt, sub2, own2, c0, c1, c2, c4, c5, c6, hf, A0, cap0, c3, hs, hg⟩, chg, ltP, ltR, ltH, p0, p1, p2, p3, p4, h0, h1, h2, r0, r1, r2, hHf, hRf⟩ := hr
      haveI : InW N wc := ⟨lt⟩
      haveI : InW P wc := ⟨ltP⟩
      haveI : InW R wc := ⟨ltR⟩
      haveI : InW H wc := ⟨ltH⟩
      have f0 := hf 0
      have f1 := hf 1
      have f2 := hf 2
      have f3 := hf 3
      have f4 := hf 4
      have f5 := hf 5
      have f6 := hf 6
      have g0 := hHf 0
      have g1 := hHf 1
      have g2 := hHf 2
      have q0 := hRf 0
      have q1 := hRf 1
      have q2 := hRf 2
      replace hf := Lib.hid hf
      replace hHf := Lib.hid hHf
      replace hRf := Lib.hid hRf
      replace hs := Lib.hid hs
      replace hg := Lib.hid hg
      replace sub2 := Lib.hid sub2
      replace chg := Lib.hid chg

      dsimp only at c0 c1 c2 c3 c4 c5 c6 p0 p1 p2 p3 p4 h0 h1 h2
      by_cases hm : 0 < ps ∧ ps = el + 1
      · rw [if_pos hm] at hX0
        have hX := Lib.hid hX0
        clear hX0
        obtain ⟨hm1, hm2⟩ := hm
        have hm1b : decide (0 < ps) = true := decide_eq_true hm1
        have hm2b : (ps == el + 1) = true := by rw [beq_iff_eq]; exact hm2
        replace hm2 := Lib.hid hm2
        go_upto_region 17 with fail
        refine wp_region_grow (by kernel_rfl) (by kernel_rfl) ?_
        repeat (go_big_quiet_step (fail))
        refine wpQuiet_nil ?_
        intro ex
        go_wp2_with fail
        refine bodyPost_ret (v := .tuple #[.agg #[.string pt, .bool true, .bool an], .int .i64 0]) (by simp [results, Try.results12, go_sem, *]) rfl ?_
        rw [HearPost, hX.out]
        repeat (with_reducible apply ChPost.plus)

        have k1 := hrk.out.setN hfo.out (hrk.out.ch.set4 (el + 1))
        exact (k1.setH01 hfo.out hHw hSH.out pt true).done hRw hSR.out _ _ _ _
      · rw [if_neg hm] at hX0
        have hX := Lib.hid hX0
        clear hX0
        by_cases hm1 : 0 < ps
        · have hm1b : decide (0 < ps) = true := decide_eq_true hm1
          have hm2b : (ps == el + 1) = false := by rw [beq_eq_false_iff_ne]; exact fun e => hm ⟨hm1, e⟩
          replace hm := Lib.hid hm
          go_upto_region 17 with fail
          refine wp_region_grow (by kernel_rfl) (by kernel_rfl) ?_
          repeat (go_big_quiet_step (fail))
          refine wpQuiet_nil ?_
          intro ex
          go_wp2_with fail
          refine bodyPost_ret (v := .tuple #[.agg #[.string ⟨#[]⟩, .bool false, .bool an], .int .i64 0]) (by simp [results, Try.results12, go_sem, *]) rfl ?_
          rw [HearPost, hX.out]
          repeat (with_reducible apply ChPost.plus)

          exact hrk.out.done hRw hSR.out _ _ _ _
        · have hm1b : decide (0 < ps) = false := decide_eq_false hm1
          replace hm := Lib.hid hm
          go_upto_region 17 with fail
          refine wp_region_grow (by kernel_rfl) (by kernel_rfl) ?_
          repeat (go_big_quiet_step (fail))
          refine wpQuiet_nil ?_
          intro ex
          go_wp2_with fail
          refine bodyPost_ret (v := .tuple #[.agg #[.string ⟨#[]⟩, .bool false, .bool an], .int .i64 0]) (by simp [results, Try.results12, go_sem, *]) rfl ?_
          rw [HearPost, hX.out]
          repeat (with_reducible apply ChPost.plus)

          exact hrk.out.done hRw hSR.out _ _ _ _
    · have hX0 := hV.out
      rw [if_pos hpy, hch2.out] at hX0
      have hX := Lib.hid hX0
      clear hX0
      have hpyb : (py != m0) = true := by rw [bne_iff_ne]; exact hpy
      go_wp2_with fail
      refine bodyPost_ret (v := .tuple #[.agg #[.string ⟨#[]⟩, .bool false, .bool an], .int .i64 0]) (by simp [results, Try.results12, go_sem, *]) rfl ?_
      rw [HearPost, hX.out]
      repeat (with_reducible apply ChPost.plus)
      exact hrk.out.done hRw hSR.out _ _ _ _
end
end Go.Proofs.Ytpmebmbibajcoaa
