/- arch: Write: walk. -/
import Derived.Test.YtkdagljoiacaaaaAr9
set_option linter.unusedSimpArgs false
set_option linter.unusedVariables false
namespace Go.Proofs.Ytkdagljoiacaaaa
open Go.RowKit
theorem upd_self {α : Type} (f : Nat → α) (j : Nat) : upd f j (f j) = f := by
  funext i
  unfold upd
  split
  · rename_i e; rw [e]
  · rfl
/-- who is of the same name leaves the names as they are -/
theorem colCs_same (l : List BdR) (i : Nat) (b o : BdR) (ho : l[i]? = some o) (hid : o.id = b.id) : colCs 0 (l.set i b) = colCs 0 l := by
  have h : ∀ l : List BdR, colCs 0 l = (l.map (·.id)).flatMap IdR.cs := fun l => by
    unfold colCs
    induction l with
    | nil => rfl
    | cons b r ih => rw [List.flatMap_cons, List.map_cons, List.flatMap_cons, ← ih]; rfl
  rw [h, h, List.map_set]
  congr 1
  apply List.ext_getElem?
  intro j
  rw [List.getElem?_set]
  split
  · rename_i e
    subst e
    have := (List.getElem?_eq_some_iff.1 ho).1
    rw [if_pos (by simpa using this), List.getElem?_map, ho]
    simp [hid]
  · rfl
theorem numbers_O {W w : World} {l : List Asn} (O : Own W w l) (b : BdR) : Calls Try.prog 52 #[b.v] w fun e w' => ∃ B, e = .returned (.slice (some ⟨B, 0, none⟩) 7 7) ∧ B < w'.heap.size ∧ w.Plus w' ∧ (∀ i, i < 7 → w'.cell? ⟨B, i, none⟩ = some (nI (num (i + 1) b))) := by
  refine (numbers_any b w).mono ?_
  rintro e w' ⟨B, rfl, h1, h2, h3, h4⟩
  exact ⟨B, rfl, h2, h3, h4⟩
set_option maxRecDepth 100000 in
set_option maxHeartbeats 4000000 in
theorem write_bad {W wx : World} {S : Nat} {T : Tabs} {l : List Asn} (h : Own W wx (storeA S T :: l)) (b : BdR) (hb : okB b = false) :
    Calls Try.prog 32 #[chP S, b.v] wx (OwnTo W (nI 1) (storeA S T :: l)) := by
  have hW := Lib.hid (Own.at_plus h)
  have kC := fun wz => check_any b wz
  rw [hb] at kC
  simp only [Bool.false_eq_true, if_false] at kC
  clear hb
  replace kC := Lib.hid kC
  replace h := Lib.hid h
  go_enter Try.func32, Try.ntmps32
  go_wp2_with (go_at_call 48; (with_reducible refine (kC.out _).mono ?_); rintro e w' ⟨rfl, ey, rfl⟩)
  go_ret
  exact ⟨rfl, hW.out _ (by (repeat (first | exact Plus.refl _ | apply Plus.plus | apply Plus.alloc | apply Plus.drew)))⟩
set_option maxRecDepth 100000 in
set_option maxHeartbeats 4000000 in
theorem write_none {W wx : World} {S : Nat} {T : Tabs} {l : List Asn} (h : Own W wx (storeA S T :: l)) (b : BdR) (hb : okB b = true) (hf : findT T b.id = none) :
    Calls Try.prog 32 #[chP S, b.v] wx (OwnTo W (nI 6) (storeA S T :: l)) := by
  have hW := Lib.hid (Own.at_plus h)
  have kC := fun wz => check_any b wz
  rw [hb, if_pos rfl] at kC
  have kH := Lib.hid (fun wz (p : wx.Plus wz) => has_store (hW.out wz p) b.id (okB_id hb))
  rw [hf] at kH
  simp only [Option.isSome_none] at kH
  clear hb hf
  replace kC := Lib.hid kC
  replace h := Lib.hid h
  go_enter Try.func32, Try.ntmps32
  go_wp2_with (first | (go_at_call 48; (with_reducible refine (kC.out _).mono ?_); rintro e w' ⟨rfl, ey, rfl⟩) | (go_at_call 46; (with_reducible refine (kH.out _ (by (repeat (first | exact Plus.refl _ | apply Plus.plus | apply Plus.alloc | apply Plus.drew)))).mono ?_); rintro e w' ⟨rfl, ey, rfl⟩))
  go_ret
  exact ⟨rfl, hW.out _ (by (repeat (first | exact Plus.refl _ | apply Plus.plus | apply Plus.alloc | apply Plus.drew)))⟩
set_option maxRecDepth 100000 in
set_option maxHeartbeats 4000000 in
theorem write_there {W wx : World} {S : Nat} {T : Tabs} {l : List Asn} (h : Own W wx (storeA S T :: l)) (hg : GoodT T) (b : BdR) (hb : okB b = true) (m i : Nat) (hf : findT T b.id = some (m, i)) (ht : total T ≤ 90000) :
    Calls Try.prog 32 #[chP S, b.v] wx (OwnTo W (nI 0) (storeA S (if (m : Int) = b.mask then setT T m i b else putT (cutT T m i) b) :: l)) := by
  obtain ⟨R, hR⟩ : ∃ R, R = if (m : Int) = b.mask then setT T m i b else putT (cutT T m i) b := ⟨_, rfl⟩
  rw [← hR]
  replace hR := Lib.hid hR
  have kC := fun wz => check_any b wz
  rw [hb, if_pos rfl] at kC
  replace kC := Lib.hid kC
  obtain ⟨M, c, hTab, O⟩ := store_open h
  have hid := okB_id hb
  obtain ⟨hm32, o, ho, hoid⟩ := findT_some hf
  have hb' := Lib.hid hb
  have hf' := Lib.hid hf
  obtain ⟨⟨is, ii, ig⟩, bm, bx, by', bvx, bvy, bhp, bpw, blf⟩ := b
  dsimp only at hid hf hoid hf'
  have O1 : Own W (wx.alloc (.cells #[nI is, nI ii, nI ig, nI bm, nI bx, nI by', nI bvx, nI bvy, nI bhp, nI bpw, nI blf] 40)) (storeL S M c (total T) (findT T) (cellsA wx.heap.size [nI is, nI ii, nI ig, nI bm, nI bx, nI by', nI bvx, nI bvy, nI bhp, nI bpw, nI blf] :: l)) :=
    (Own.newCells O [nI is, nI ii, nI ig, nI bm, nI bx, nI by', nI bvx, nI bvy, nI bhp, nI bpw, nI blf] 40).perm (List.perm_middle (l₁ := [_, _, _])).symm
  generalize hX : wx.heap.size = X at *
  generalize hwy : wx.alloc (.cells #[nI is, nI ii, nI ig, nI bm, nI bx, nI by', nI bvx, nI bvy, nI bhp, nI bpw, nI blf] 40) = wy at *
  have kH := Lib.hid (fun wz (p : wy.Plus wz) => has_store (store_mk (Own.at_plus O1 wz p) hTab) ⟨is, ii, ig⟩ hid)
  rw [hf] at kH
  simp only [Option.isSome_some] at kH
  clear O h hb hf
  have B1 := box_at (b := ⟨⟨is, ii, ig⟩, bm, bx, by', bvx, bvy, bhp, bpw, blf⟩) 3 O1 rfl
  obtain ⟨hIn, q0, q1, q2, q3, q4, q5, q6, q7, q8, q9, q10⟩ := B1
  dsimp only at q0 q1 q2 q3 q4 q5 q6 q7 q8 q9 q10
  replace O1 := Lib.hid O1
  replace hTab := Lib.hid hTab
  replace ho := Lib.hid ho
  replace hoid := Lib.hid hoid
  go_enter Try.func32, Try.ntmps32
  go_upto_region 5 with (first | (go_at_call 48; (with_reducible refine (kC.out _).mono ?_); rintro e w' ⟨rfl, ey, rfl⟩) | (go_at_call 46; (with_reducible refine (kH.out _ (by (repeat (first | exact Plus.refl _ | apply Plus.plus | apply Plus.alloc | apply Plus.drew)))).mono ?_); rintro e w' ⟨rfl, ez, rfl⟩))
  have O2 := (O1.out.plus ey).plus ez
  generalize (wy.plus ey).plus ez = w1 at *
  clear kC kH q0 q1 q2 q3 q4 q5 q6 q7 q8 q9 q10 O1 hwy hX hIn
  have B1 := box_at (b := ⟨⟨is, ii, ig⟩, bm, bx, by', bvx, bvy, bhp, bpw, blf⟩) 3 O2 rfl
  obtain ⟨hIn, q0, q1, q2, q3, q4, q5, q6, q7, q8, q9, q10⟩ := B1
  dsimp only at q0 q1 q2 q3 q4 q5 q6 q7 q8 q9 q10
  obtain ⟨lS, sM, _, _, _⟩ := store_at O2
  have l1 := look_at O2.drew ⟨is, ii, ig⟩ hid false
  have l2 := look_at ((O2.alloc (.cells #[nI 0, nI 0] 77)).drew) ⟨is, ii, ig⟩ hid false
  rw [hf'.out] at l1 l2
  simp only [Option.elim] at l1 l2
  have O3 := Lib.hid (((O2.newCells [nI m, nI i] 77).perm (List.perm_middle (l₁ := [_, _, _])).symm).drew)
  replace O2 := Lib.hid O2
  go_cut [5] (fun v wz => ∃ P, v = chP P ∧ Own W wz (storeL S M c (total T) (findT T) (cellsA P [nI m, nI i] :: cellsA X [nI is, nI ii, nI ig, nI bm, nI bx, nI by', nI bvx, nI bvy, nI bhp, nI bpw, nI blf] :: l)))
  case first =>
    go_region
    all_goals
      go_wp2_with fail
      go_meet
      exact ⟨_, rfl, O3.out⟩
  clear O3 l1 l2 q0 q1 q2 q3 q4 q5 q6 q7 q8 q9 q10 sM lS O2 hIn
  obtain ⟨P, rfl, O1⟩ := hcut
  have B1 := box_at (b := ⟨⟨is, ii, ig⟩, bm, bx, by', bvx, bvy, bhp, bpw, blf⟩) 4 O1 rfl
  obtain ⟨hIn, q0, q1, q2, q3, q4, q5, q6, q7, q8, q9, q10⟩ := B1
  dsimp only at q0 q1 q2 q3 q4 q5 q6 q7 q8 q9 q10
  obtain ⟨lP, qP, fP⟩ := O1.cells 3 rfl
  have p0 := qP 0 (by simp)
  simp only [List.getElem?_cons_succ, List.getElem?_cons_zero] at p0
  haveI : InW P wc := ⟨lP⟩
  clear qP fP lP
  by_cases hmask : (m : Int) = bm
  · subst hmask
    have hR1 := hR.out
    rw [if_pos rfl] at hR1
    obtain ⟨lS, sM, _, _, _⟩ := store_at O1
    have hm32i : (m : Int) < 32 := by omega
    have kC := fun (wz : World) (p : wc.Plus wz) => columns_O (Own.at_plus O1 wz p) S m
    have hlen : (T m).length ≤ 100000 := by have := len_total T m hm32; omega
    have hil := (List.getElem?_eq_some_iff.1 ho.out).1
    have hTs : Tab2 T (setT T m i ⟨⟨is, ii, ig⟩, (m : Int), bx, by', bvx, bvy, bhp, bpw, blf⟩) m 1 c := by
      have h1 := hTab.out (m * 8) (by omega)
      rw [show m * 8 / 8 = m by omega, show m * 8 % 8 = 0 by omega] at h1
      have := (Tab2.start (T' := setT T m i ⟨⟨is, ii, ig⟩, (m : Int), bx, by', bvx, bvy, bhp, bpw, blf⟩) (m := m) hTab.out).next hm32 (by omega : 0 < 8) (c (m * 8)) (by
        show _ = (upd T m _ m).length ∧ _ = colCs 0 (upd T m _ m)
        rw [upd_at, List.length_set, colCs_same _ _ _ _ ho.out hoid.out]
        exact h1)
      simp only [Nat.add_zero, Nat.zero_add] at this
      rw [upd_self] at this
      exact this
    have hat : setT T m i ⟨⟨is, ii, ig⟩, (m : Int), bx, by', bvx, bvy, bhp, bpw, blf⟩ m = (T m).set i ⟨⟨is, ii, ig⟩, (m : Int), bx, by', bvx, bvy, bhp, bpw, blf⟩ := upd_at _ _ _
    have hput : ∀ k, k ≠ m → setT T m i ⟨⟨is, ii, ig⟩, (m : Int), bx, by', bvx, bvy, bhp, bpw, blf⟩ k = T k := fun k hk => upd_ne _ _ hk
    have htot : total (setT T m i ⟨⟨is, ii, ig⟩, (m : Int), bx, by', bvx, bvy, bhp, bpw, blf⟩) = total T := total_set T m i _ hm32
    have hfind : findT (setT T m i ⟨⟨is, ii, ig⟩, (m : Int), bx, by', bvx, bvy, bhp, bpw, blf⟩) = findT T := funext fun a => find_set hg ho.out hoid.out hb'.out rfl a
    have hN := Lib.hid (fun wz => numbers_any ⟨⟨is, ii, ig⟩, (m : Int), bx, by', bvx, bvy, bhp, bpw, blf⟩ wz)
    rw [← hR1] at hTs hat hput htot hfind
    clear hR1
    replace hTs := Lib.hid hTs
    replace hat := Lib.hid hat
    replace hput := Lib.hid hput
    replace htot := Lib.hid htot
    replace hfind := Lib.hid hfind
    replace kC := Lib.hid kC
    replace O1 := Lib.hid O1
    go_upto_region 10 with fail
    go_cut [47, 48, 49] (fun v n k wz => ∃ B, v = .slice (some ⟨B, 0, none⟩) 7 7 ∧ n = nI 7 ∧ k = nI 0 ∧ Own W wz (storeL S M c (total T) (findT T) (cellsA P [nI m, nI i] :: cellsA X [nI is, nI ii, nI ig, nI (m : Int), nI bx, nI by', nI bvx, nI bvy, nI bhp, nI bpw, nI blf] :: cellsA B (colPs S m) :: l)))
    case first =>
      go_region_law ((go_simp; go_at_call 51; (with_reducible refine (kC.out _ (by (repeat (first | exact Plus.refl _ | apply Plus.plus | apply Plus.alloc | apply Plus.drew)))).mono ?_); rintro e w5 ⟨B, rfl, O5⟩))
      all_goals
        have O6 : Own W _ (storeL S M c (total T) (findT T) (cellsA P [nI m, nI i] :: cellsA X [nI is, nI ii, nI ig, nI (m : Int), nI bx, nI by', nI bvx, nI bvy, nI bhp, nI bpw, nI blf] :: cellsA B (colPs S m) :: l)) := O5.perm (List.perm_middle (l₁ := [_, _, _, _, _])).symm
        replace O6 := Lib.hid O6
        clear O5
        go_wp2_with fail
        go_meet
        exact ⟨_, rfl, rfl, rfl, O6.out⟩
    clear kC O1 q0 q1 q2 q3 q4 q5 q6 q7 q8 q9 q10 p0 lS sM hIn
    obtain ⟨B, rfl, rfl, rfl, O3⟩ := hcut
    go_wp2_with fail
    go_loopw [49] (fun v wr => ∃ (q : Nat) (c : Nat → Col), q ≤ 7 ∧ v = nI q ∧ Tab2 T R m (1 + q) c ∧ Own W wr (storeL S M c (total T) (findT T) (cellsA P [nI m, nI i] :: cellsA X [nI is, nI ii, nI ig, nI (m : Int), nI bx, nI by', nI bvx, nI bvy, nI bhp, nI bpw, nI blf] :: cellsA B (colPs S m) :: l))) (fun v _ => 7 - (intOf v).toNat)
    case atStart => exact ⟨0, c, by omega, rfl, hTs.out, O3⟩
    case round =>
      clear O3 hTs
      obtain ⟨q, c, hq, rfl, hT2, OX⟩ := hrel
      by_cases hlt : q < 7
      · have hlti : (q : Int) < 7 := by omega
        obtain ⟨lB, qB, fB⟩ := OX.cells 5 rfl
        haveI : InW B wr := ⟨lB⟩
        have b0 := (qB q (by simp [colPs]; omega)).trans (colPs_get S m q hlt)
        obtain ⟨lP, qP, fP⟩ := OX.cells 3 rfl
        have p1 := qP 1 (by simp)
        simp only [List.getElem?_cons_succ, List.getElem?_cons_zero] at p1
        haveI : InW P wr := ⟨lP⟩
        have B1 := box_at (b := ⟨⟨is, ii, ig⟩, (m : Int), bx, by', bvx, bvy, bhp, bpw, blf⟩) 4 OX rfl
        obtain ⟨hIn, q0, q1, q2, q3, q4, q5, q6, q7, q8, q9, q10⟩ := B1
        dsimp only at q0 q1 q2 q3 q4 q5 q6 q7 q8 q9 q10
        obtain ⟨lS, sM, sc, sf, _⟩ := store_at OX
        have hj : m * 8 + 1 + q < 256 := by omega
        have s0 := sc (m * 8 + 1 + q) hj
        have hTi := hT2.at hm32 (by omega : 1 + q < 8)
        rw [show m * 8 + (1 + q) = m * 8 + 1 + q by omega] at hTi
        obtain ⟨g, o', cap, had, hcap, hgw, hgc, hgf⟩ := col_at OX (m * 8 + 1 + q) hj (by rw [hTi.1]; omega)
        have hsz : szc (m * 8 + 1 + q) = 1 := by unfold szc; rw [if_neg (by omega)]
        have hv0 : (c (m * 8 + 1 + q)).v = .slice (some ⟨g, o', none⟩) (T m).length cap := by unfold Col.v; rw [had, hTi.1]
        rw [hv0] at s0
        rw [hsz, hTi.1, hTi.2, Nat.mul_one] at hgc
        rw [hsz, hTi.1, Nat.mul_one] at hgf
        haveI := hgw
        obtain ⟨x, x0⟩ : ∃ x, wr.cell? ⟨g, o' + i, none⟩ = some (nI x) := ⟨_, (hgc i hil).trans (by rw [colCs_get1 (1 + q) (by omega), ho.out]; rfl)⟩
        have y0 := hgf i hil
        have hili : (i : Int) < (T m).length := by omega
        clear qB fB lB qP fP lP sc sf hgc hgf sM
        obtain ⟨n, hn⟩ : ∃ n, n = (T m).length := ⟨_, rfl⟩
        rw [← hn] at s0 hili hTi hv0
        have hil' : i < n := by rw [hn]; exact hil
        have hn' := Lib.hid hn
        clear hn
        obtain ⟨y, hy⟩ : ∃ y, y = num (q + 1) ⟨⟨is, ii, ig⟩, (m : Int), bx, by', bvx, bvy, bhp, bpw, blf⟩ := ⟨_, rfl⟩
        have hO : ∀ e, Own W ((wr.setCell ⟨g, o' + i, none⟩ (nI y)).plus e) (storeL S M (upd c (m * 8 + 1 + q) ⟨(some ⟨g, o', none⟩, cap), n, colCs (1 + q) (R m)⟩) (total T) (findT T) (cellsA P [nI m, nI i] :: cellsA X [nI is, nI ii, nI ig, nI (m : Int), nI bx, nI by', nI bvx, nI bvy, nI bhp, nI bpw, nI blf] :: cellsA B (colPs S m) :: l)) := by
          intro e
          have O2 := cols_pull OX (j := m * 8 + 1 + q) hj
          unfold colA at O2
          rw [hsz, hTi.1, hTi.2, hv0] at O2
          have O3 := (Own.setSl O2 i (nI y) (by omega)).plus e
          rw [hy, Nat.add_comm q 1, colCs_set1 (1 + q) (by omega), ← hat.out] at O3
          have O4 := col_same (j := m * 8 + 1 + q) (c := c) (cs := colCs (1 + q) (R m)) hj (by rw [hsz, hTi.1, hv0]; exact O3)
          rw [hTi.1, had] at O4
          rw [hy, Nat.add_comm q 1]
          exact O4
        have hT8 := hT2.next hm32 (by omega : 1 + q < 8) ⟨(some ⟨g, o', none⟩, cap), n, colCs (1 + q) (R m)⟩ ⟨by rw [hat.out, List.length_set]; exact hn'.out, rfl⟩
        rw [show m * 8 + (1 + q) = m * 8 + 1 + q by omega] at hT8
        replace hO := Lib.hid hO
        replace hT8 := Lib.hid hT8
        replace hy := Lib.hid hy
        replace hTi := Lib.hid hTi
        replace hT2 := Lib.hid hT2
        replace hv0 := Lib.hid hv0
        replace had := Lib.hid had
        replace hcap := Lib.hid hcap
        replace hsz := Lib.hid hsz
        replace OX := Lib.hid OX
        go_upto_region 13 with fail
        go_region_law ((go_simp; go_at_call 52; (with_reducible refine (hN.out _).mono ?_); rintro e w' ⟨BN, rfl, hBN, hBl, ⟨eN, rfl⟩, hcN⟩; haveI : InW BN (wr.plus eN) := ⟨hBl⟩; have nN : (wr.plus eN).cell? ⟨BN, q, none⟩ = some (nI y) := (by rw [hy.out]; exact hcN q hlt); clear hcN hBl hBN))
        all_goals
          go_wp2_with fail
          go_roundw
          case rel => exact ⟨q + 1, _, hlt, by go_num, hT8.out, hO.out _⟩
          case measure => simp [intOf]; omega
      · obtain rfl : q = 7 := by omega
        have O4 := (((OX.pull 3 rfl).drop.pull 3 rfl).drop.pull 3 rfl).drop
        rw [← htot.out, ← hfind.out] at O4
        have O9 := Lib.hid (store_mk O4 (hT2.stop hput.out))
        replace OX := Lib.hid OX
        replace hT2 := Lib.hid hT2
        clear O4
        go_wp2_with fail
        go_ret
        exact ⟨rfl, O9.out⟩
  · have hR1 := hR.out
    rw [if_neg hmask] at hR1
    have hne := Lib.hid hmask
    have hbne : ((m : Int) != bm) = true := by rw [bne_iff_ne]; exact hmask
    have hdec : decide ((m : Int) = bm) = false := decide_eq_false hmask
    replace hmask := Lib.hid hmask
    have kU := Lib.hid (fun wz (p : wc.Plus wz) => cut_O (store_mk (Own.at_plus O1 wz p) hTab.out) hg ⟨is, ii, ig⟩ m i hf'.out hid (by omega))
    have hg2 := good_cut hg m i
    have hn2 := find_cut_self hg hf'.out
    have ht2 := (cut_total hf'.out).1
    generalize cutT T m i = T2 at *
    replace hR1 := Lib.hid hR1
    have O3 := Lib.hid O1
    replace O1 := Lib.hid O1
    replace hg2 := Lib.hid hg2
    replace hn2 := Lib.hid hn2
    replace ht2 := Lib.hid ht2
    go_upto_region 8 with (go_at_call 50; (with_reducible refine (kU.out _ (by (repeat (first | exact Plus.refl _ | apply Plus.plus | apply Plus.alloc | apply Plus.drew)))).mono ?_); rintro e w2 ⟨rfl, O2⟩)
    have kA := Lib.hid (add_O O2 hg2.out ⟨⟨is, ii, ig⟩, bm, bx, by', bvx, bvy, bhp, bpw, blf⟩ hb'.out hn2.out (by have := ht2.out; omega))
    clear q0 q1 q2 q3 q4 q5 q6 q7 q8 q9 q10 hIn p0
    have B1 := box_at (b := ⟨⟨is, ii, ig⟩, bm, bx, by', bvx, bvy, bhp, bpw, blf⟩) 2 O2 rfl
    obtain ⟨hIn, q0, q1, q2, q3, q4, q5, q6, q7, q8, q9, q10⟩ := B1
    dsimp only at q0 q1 q2 q3 q4 q5 q6 q7 q8 q9 q10
    replace O2 := Lib.hid O2
    go_wp2_with (go_at_call 49; (with_reducible refine kA.out.mono ?_); rintro e w4 ⟨rfl, O4⟩)
    go_ret
    exact ⟨rfl, by rw [hR1.out]; exact ((O4.pull 1 rfl).drop.pull 1 rfl).drop⟩
theorem write_O {W wx : World} {S : Nat} {T : Tabs} {l : List Asn} (h : Own W wx (storeA S T :: l)) (hg : GoodT T) (b : BdR) (ht : total T ≤ 90000) :
    Calls Try.prog 32 #[chP S, b.v] wx (OwnTo W (nI (writeS T b).2) (storeA S (writeS T b).1 :: l)) := by
  cases hb : okB b with
  | false =>
    have : writeS T b = (T, 1) := by unfold writeS; rw [hb]; rfl
    rw [this]
    exact write_bad h b hb
  | true =>
    cases hf : findT T b.id with
    | none =>
      have : writeS T b = (T, 6) := by unfold writeS; rw [hb, hf]; rfl
      rw [this]
      exact write_none h b hb hf
    | some p =>
      obtain ⟨m, i⟩ := p
      have : writeS T b = (if (m : Int) = b.mask then setT T m i b else putT (cutT T m i) b, 0) := by
        unfold writeS
        rw [hb, hf]
        simp only [if_true]
        split <;> rfl
      rw [this]
      exact write_there h hg b hb m i hf ht
end Go.Proofs.Ytkdagljoiacaaaa
