/- codec: the reference's May: walk. -/
import Derived.Test.YtjfjecjigakdnaaCodMc
import Derived.Test.YtjfjecjigakdnaaCodS
set_option linter.unusedSimpArgs false
set_option linter.unusedVariables false
namespace Go.Proofs.Ytjfjecjigakdnaa
open Go.RowKit Octs
set_option maxHeartbeats 2000000
set_option maxRecDepth 100000
def bad1 (k t n : Int) : Bool := !(fK k && numB (fT k) t && numB (fN k) n)
def bad2 (k : Int) (Lc Lb Li : Nat) : Bool := !((fC k || decide (Lc = 0)) && (fB k || decide (Lb = 0)) && (fI k || decide (Li = 0)))
def bad3 (k : Int) (Lc Lb Li : Nat) : Bool := !(decide (Lc ≤ 64) && decide (Lb ≤ 1024) && decide (Li ≤ 1024) && !(decide (k = 7) && decide (Lb ≠ 1)))
theorem okM_split (k t n : Int) (cs : List CmdR) (bs : List BdR) (is : List IdR) : okM ⟨k, t, n, cs, bs, is⟩ = (!bad1 k t n && !bad2 k cs.length bs.length is.length && !bad3 k cs.length bs.length is.length && cs.all okC && bs.all okB && is.all idB) := by
  unfold okM bad1 bad2 bad3 allB
  simp only [Bool.not_not]
  generalize fK k = x1
  generalize numB (fT k) t = x2
  generalize numB (fN k) n = x3
  generalize (fC k || decide (cs.length = 0)) = x4
  generalize (fB k || decide (bs.length = 0)) = x5
  generalize (fI k || decide (is.length = 0)) = x6
  generalize decide (cs.length ≤ 64) = x7
  generalize decide (bs.length ≤ 1024) = x8
  generalize decide (is.length ≤ 1024) = x9
  generalize (!(decide (k = 7) && decide (bs.length ≠ 1))) = x10
  generalize cs.all okC = x11
  generalize bs.all okB = x12
  generalize is.all idB = x13
  cases x1 <;> cases x2 <;> cases x3 <;> cases x4 <;> cases x5 <;> cases x6 <;> simp
  cases x7 <;> cases x8 <;> cases x9 <;> cases x10 <;> cases x11 <;> cases x12 <;> cases x13 <;> rfl
section
variable (k t n : Int) (Lc Lb Li : Nat) (Ac Ab Ai : Option Addr) (cc cb ci : Nat) (W : World)
/-- the frame -/
def MyF (B : Nat) (wx : World) : Prop := Hid (Own W wx (cellsA B [nI k, nI t, nI n, .slice Ac Lc cc, .slice Ab Lb cb, .slice Ai Li ci] :: []))
end
theorem refMay_any (m : MsgR) (a : MAt) (W : World) (h : MRows W m a) : Calls Try.prog 72 #[mV m a] W fun e w' => e = .returned (.bool (okM m)) ∧ W.Plus w' := by
  obtain ⟨k, t, n, cs, bs, is⟩ := m
  obtain ⟨Ac, Ab, Ai, cc, cb, ci⟩ := a
  have hR := okM_split k t n cs bs is
  obtain ⟨rC, rB, rI⟩ := h
  simp only at rC rB rI
  have kt := Lib.hid (fun w => hasT_any k w)
  have kn := Lib.hid (fun w => hasN_any k w)
  obtain ⟨R, hRR⟩ : ∃ R, R = okM ⟨k, t, n, cs, bs, is⟩ := ⟨_, rfl⟩
  rw [← hRR] at hR ⊢
  clear hRR
  have hb1 : bad1 k t n = !(decide (1 ≤ k) && decide (k ≤ 12) && numB (fT k) t && numB (fN k) n) := rfl
  generalize fT k = ft at *
  generalize fN k = fn at *
  simp only [mV]
  obtain ⟨Lc, hLc⟩ : ∃ L, L = cs.length := ⟨_, rfl⟩
  obtain ⟨Lb, hLb⟩ : ∃ L, L = bs.length := ⟨_, rfl⟩
  obtain ⟨Li, hLi⟩ : ∃ L, L = is.length := ⟨_, rfl⟩
  rw [← hLc, ← hLb, ← hLi] at hR ⊢
  have hb2 : bad2 k Lc Lb Li = !((decide (k = 1) || decide (Lc = 0)) && ((decide (k = 7) || decide (k = 12)) || decide (Lb = 0)) && (decide (k = 4) || decide (Li = 0))) := rfl
  have hb3 : bad3 k Lc Lb Li = !(decide (Lc ≤ 64) && decide (Lb ≤ 1024) && decide (Li ≤ 1024) && !(decide (k = 7) && decide (Lb ≠ 1))) := rfl
  generalize bad1 k t n = b1 at *
  generalize bad2 k Lc Lb Li = b2 at *
  generalize bad3 k Lc Lb Li = b3 at *
  have O0 := Own.newCells (Own.start W) [nI k, nI t, nI n, .slice Ac Lc cc, .slice Ab Lb cb, .slice Ai Li ci] 62
  obtain ⟨w0, hw0⟩ : ∃ q, W.alloc (.cells #[nI k, nI t, nI n, .slice Ac Lc cc, .slice Ab Lb cb, .slice Ai Li ci] 62) = q := ⟨_, rfl⟩
  rw [hw0] at O0
  replace O0 := Lib.hid O0
  replace rC := Lib.hid (fun wz (p : W.Plus wz) => rC.plus p)
  replace rB := Lib.hid (fun wz (p : W.Plus wz) => rB.plus p)
  replace rI := Lib.hid (fun wz (p : W.Plus wz) => rI.plus p)
  replace hR := Lib.hid hR
  replace hb1 := Lib.hid hb1
  replace hb2 := Lib.hid hb2
  replace hb3 := Lib.hid hb3
  replace hLc := Lib.hid hLc
  replace hLb := Lib.hid hLb
  replace hLi := Lib.hid hLi
  replace hw0 := Lib.hid hw0
  go_enter Try.func72, Try.ntmps72
  go_upto_region 1 with fail
  rw [hw0.out]
  clear hw0
  generalize W.heap.size = B at *
  go_cut [31] (fun v wx => v = .bool b1 ∧ Own W wx (cellsA B [nI k, nI t, nI n, .slice Ac Lc cc, .slice Ab Lb cb, .slice Ai Li ci] :: []))
  case first =>
    obtain ⟨lQ, qQ, fQ⟩ := Own.cells 0 (O0.out) rfl
    have x0 := qQ 0 (by simp)
    have x1 := qQ 1 (by simp)
    have x2 := qQ 2 (by simp)
    have x3 := qQ 3 (by simp)
    have x4 := qQ 4 (by simp)
    have x5 := qQ 5 (by simp)
    simp only [List.getElem?_cons_succ, List.getElem?_cons_zero] at x0 x1 x2 x3 x4 x5
    haveI : InW B w0 := ⟨lQ⟩
    clear qQ lQ fQ
    by_cases h1 : k < 1
    · obtain rfl : b1 = true := by rw [hb1.out, decide_eq_false (by omega : ¬ 1 ≤ k)]; rfl
      clear hb1
      refine wp_region_grow (by kernel_rfl) (by kernel_rfl) ?_
      repeat (go_big_quiet_step ((first | (go_at_call 73; exact Calls.plus_of (kt.out _)) | (go_at_call 74; exact Calls.plus_of (kn.out _)) | (go_at_call 95; exact Calls.plus_of (time_any _ _ _)))))
      refine wpQuiet_nil ?_
      intro ex
      go_wp2_with fail
      go_meet
      exact ⟨rfl, (Own.plus O0.out ex)⟩
    have g1 : 1 ≤ k := by omega
    by_cases h2 : 12 < k
    · obtain rfl : b1 = true := by rw [hb1.out, decide_eq_false (by omega : ¬ k ≤ 12)]; simp
      clear hb1 g1
      refine wp_region_grow (by kernel_rfl) (by kernel_rfl) ?_
      repeat (go_big_quiet_step ((first | (go_at_call 73; exact Calls.plus_of (kt.out _)) | (go_at_call 74; exact Calls.plus_of (kn.out _)) | (go_at_call 95; exact Calls.plus_of (time_any _ _ _)))))
      refine wpQuiet_nil ?_
      intro ex
      go_wp2_with fail
      go_meet
      exact ⟨rfl, (Own.plus O0.out ex)⟩
    have g2 : k ≤ 12 := by omega
    have e1 : b1 = !(numB ft t && numB fn n) := by rw [hb1.out, decide_eq_true g1, decide_eq_true g2]; simp
    clear hb1 g1 g2
    rcases (by cases numB ft t <;> simp : numB ft t = false ∨ numB ft t = true) with ht | ht
    · obtain rfl : b1 = true := by rw [e1, ht]; rfl
      clear e1
      refine wp_region_grow (by kernel_rfl) (by kernel_rfl) ?_
      repeat (go_big_quiet_step ((first | (go_at_call 73; exact Calls.plus_of (kt.out _)) | (go_at_call 74; exact Calls.plus_of (kn.out _)) | (go_at_call 95; exact Calls.plus_of (time_any _ _ _)))))
      refine wpQuiet_nil ?_
      intro ex
      go_wp2_with fail
      go_meet
      exact ⟨rfl, (Own.plus O0.out ex)⟩
    rcases (by cases numB fn n <;> simp : numB fn n = false ∨ numB fn n = true) with ht2 | ht2
    · obtain rfl : b1 = true := by rw [e1, ht, ht2]; rfl
      clear e1
      refine wp_region_grow (by kernel_rfl) (by kernel_rfl) ?_
      repeat (go_big_quiet_step ((first | (go_at_call 73; exact Calls.plus_of (kt.out _)) | (go_at_call 74; exact Calls.plus_of (kn.out _)) | (go_at_call 95; exact Calls.plus_of (time_any _ _ _)))))
      refine wpQuiet_nil ?_
      intro ex
      go_wp2_with fail
      go_meet
      exact ⟨rfl, (Own.plus O0.out ex)⟩
    obtain rfl : b1 = false := by rw [e1, ht, ht2]; rfl
    clear e1
    refine wp_region_grow (by kernel_rfl) (by kernel_rfl) ?_
    repeat (go_big_quiet_step ((first | (go_at_call 73; exact Calls.plus_of (kt.out _)) | (go_at_call 74; exact Calls.plus_of (kn.out _)) | (go_at_call 95; exact Calls.plus_of (time_any _ _ _)))))
    refine wpQuiet_nil ?_
    intro ex
    go_wp2_with fail
    go_meet
    exact ⟨rfl, (Own.plus O0.out ex)⟩
  obtain ⟨rfl, O1⟩ := hcut
  clear hb1 O0 kt kn
  have P1 := O1.p
  replace O1 := Lib.hid O1
  cases b1 with
  | true =>
    obtain rfl : R = false := by rw [hR.out]; rfl
    replace P1 := Lib.hid P1
    go_wp2_with fail
    go_ret
    exact ⟨rfl, P1.out⟩
  | false =>
  clear P1
  go_upto_region 3 with fail
  have hp2 : b2 = false ↔ (k = 1 ∨ Lc = 0) ∧ ((k = 7 ∨ k = 12) ∨ Lb = 0) ∧ (k = 4 ∨ Li = 0) := by rw [hb2.out]; simp [and_assoc]; omega
  have hp3 : b3 = false ↔ Lc ≤ 64 ∧ Lb ≤ 1024 ∧ Li ≤ 1024 ∧ ¬ (k = 7 ∧ Lb ≠ 1) := by rw [hb3.out]; simp [and_assoc]
  replace hp2 := Lib.hid hp2
  replace hp3 := Lib.hid hp3
  clear hb2 hb3
  go_cut [67] (fun v wx => v = .bool b2 ∧ Own W wx (cellsA B [nI k, nI t, nI n, .slice Ac Lc cc, .slice Ab Lb cb, .slice Ai Li ci] :: []))
  case first =>
    obtain ⟨lQ, qQ, fQ⟩ := Own.cells 0 (O1.out) rfl
    have x0 := qQ 0 (by simp)
    have x1 := qQ 1 (by simp)
    have x2 := qQ 2 (by simp)
    have x3 := qQ 3 (by simp)
    have x4 := qQ 4 (by simp)
    have x5 := qQ 5 (by simp)
    simp only [List.getElem?_cons_succ, List.getElem?_cons_zero] at x0 x1 x2 x3 x4 x5
    haveI : InW B wc := ⟨lQ⟩
    clear qQ lQ fQ
    by_cases hc : 0 < Lc
    · have ic : (0 : Int) < Lc := by omega
      by_cases n1 : k = 1
      · subst n1
        by_cases hb : 0 < Lb
        · have ib : (0 : Int) < Lb := by omega
          obtain rfl : b2 = true := eq_true_of_ne_false (fun h => by have := hp2.out.1 h; omega)
          clear hp2 hp3
          go_wp2_with fail
          go_meet
          exact ⟨rfl, O1.out⟩
        · have ib : ¬ (0 : Int) < Lb := by omega
          by_cases hi : 0 < Li
          · have ii : (0 : Int) < Li := by omega
            obtain rfl : b2 = true := eq_true_of_ne_false (fun h => by have := hp2.out.1 h; omega)
            clear hp2 hp3
            go_wp2_with fail
            go_meet
            exact ⟨rfl, O1.out⟩
          · have ii : ¬ (0 : Int) < Li := by omega
            obtain rfl : b2 = false := hp2.out.2 (by omega)
            clear hp2 hp3
            go_wp2_with fail
            go_meet
            exact ⟨rfl, O1.out⟩
      · have d1 : (k == 1) = false := by rw [beq_eq_false_iff_ne]; exact n1
        have g1 : (k != 1) = true := by rw [bne_iff_ne]; exact n1
        obtain rfl : b2 = true := eq_true_of_ne_false (fun h => by have := hp2.out.1 h; omega)
        clear hp2 hp3
        go_wp2_with fail
        go_meet
        exact ⟨rfl, O1.out⟩
    · have ic : ¬ (0 : Int) < Lc := by omega
      by_cases hb : 0 < Lb
      · have ib : (0 : Int) < Lb := by omega
        by_cases n7 : k = 7
        · subst n7
          by_cases hi : 0 < Li
          · have ii : (0 : Int) < Li := by omega
            obtain rfl : b2 = true := eq_true_of_ne_false (fun h => by have := hp2.out.1 h; omega)
            clear hp2 hp3
            go_wp2_with fail
            go_meet
            exact ⟨rfl, O1.out⟩
          · have ii : ¬ (0 : Int) < Li := by omega
            obtain rfl : b2 = false := hp2.out.2 (by omega)
            clear hp2 hp3
            go_wp2_with fail
            go_meet
            exact ⟨rfl, O1.out⟩
        · have d7 : (k == 7) = false := by rw [beq_eq_false_iff_ne]; exact n7
          have g7 : (k != 7) = true := by rw [bne_iff_ne]; exact n7
          by_cases n12 : k = 12
          · subst n12
            by_cases hi : 0 < Li
            · have ii : (0 : Int) < Li := by omega
              obtain rfl : b2 = true := eq_true_of_ne_false (fun h => by have := hp2.out.1 h; omega)
              clear hp2 hp3
              go_wp2_with fail
              go_meet
              exact ⟨rfl, O1.out⟩
            · have ii : ¬ (0 : Int) < Li := by omega
              obtain rfl : b2 = false := hp2.out.2 (by omega)
              clear hp2 hp3
              go_wp2_with fail
              go_meet
              exact ⟨rfl, O1.out⟩
          · have d12 : (k == 12) = false := by rw [beq_eq_false_iff_ne]; exact n12
            have g12 : (k != 12) = true := by rw [bne_iff_ne]; exact n12
            obtain rfl : b2 = true := eq_true_of_ne_false (fun h => by have := hp2.out.1 h; omega)
            clear hp2 hp3
            go_wp2_with fail
            go_meet
            exact ⟨rfl, O1.out⟩
      · have ib : ¬ (0 : Int) < Lb := by omega
        by_cases hi : 0 < Li
        · have ii : (0 : Int) < Li := by omega
          by_cases n4 : k = 4
          · subst n4
            obtain rfl : b2 = false := hp2.out.2 (by omega)
            clear hp2 hp3
            go_wp2_with fail
            go_meet
            exact ⟨rfl, O1.out⟩
          · have d4 : (k == 4) = false := by rw [beq_eq_false_iff_ne]; exact n4
            have g4 : (k != 4) = true := by rw [bne_iff_ne]; exact n4
            obtain rfl : b2 = true := eq_true_of_ne_false (fun h => by have := hp2.out.1 h; omega)
            clear hp2 hp3
            go_wp2_with fail
            go_meet
            exact ⟨rfl, O1.out⟩
        · have ii : ¬ (0 : Int) < Li := by omega
          obtain rfl : b2 = false := hp2.out.2 (by omega)
          clear hp2 hp3
          go_wp2_with fail
          go_meet
          exact ⟨rfl, O1.out⟩
  obtain ⟨rfl, O2⟩ := hcut
  clear O1
  have P1 := O2.p
  replace O2 := Lib.hid O2
  cases b2 with
  | true =>
    obtain rfl : R = false := by rw [hR.out]; rfl
    replace P1 := Lib.hid P1
    go_wp2_with fail
    go_ret
    exact ⟨rfl, P1.out⟩
  | false =>
  clear P1 hp2
  go_upto_region 5 with fail
  go_cut [94] (fun v wx => v = .bool b3 ∧ Own W wx (cellsA B [nI k, nI t, nI n, .slice Ac Lc cc, .slice Ab Lb cb, .slice Ai Li ci] :: []))
  case first =>
    obtain ⟨lQ, qQ, fQ⟩ := Own.cells 0 (O2.out) rfl
    have x0 := qQ 0 (by simp)
    have x1 := qQ 1 (by simp)
    have x2 := qQ 2 (by simp)
    have x3 := qQ 3 (by simp)
    have x4 := qQ 4 (by simp)
    have x5 := qQ 5 (by simp)
    simp only [List.getElem?_cons_succ, List.getElem?_cons_zero] at x0 x1 x2 x3 x4 x5
    haveI : InW B _ := ⟨lQ⟩
    clear qQ lQ fQ
    by_cases hc : 64 < Lc
    · have ic : (64 : Int) < Lc := by omega
      obtain rfl : b3 = true := eq_true_of_ne_false (fun h => by have := hp3.out.1 h; omega)
      clear hp3
      go_wp2_with fail
      go_meet
      exact ⟨rfl, O2.out⟩
    · have ic : ¬ (64 : Int) < Lc := by omega
      by_cases hb : 1024 < Lb
      · have ib : (1024 : Int) < Lb := by omega
        obtain rfl : b3 = true := eq_true_of_ne_false (fun h => by have := hp3.out.1 h; omega)
        clear hp3
        go_wp2_with fail
        go_meet
        exact ⟨rfl, O2.out⟩
      · have ib : ¬ (1024 : Int) < Lb := by omega
        by_cases hi : 1024 < Li
        · have ii : (1024 : Int) < Li := by omega
          obtain rfl : b3 = true := eq_true_of_ne_false (fun h => by have := hp3.out.1 h; omega)
          clear hp3
          go_wp2_with fail
          go_meet
          exact ⟨rfl, O2.out⟩
        · have ii : ¬ (1024 : Int) < Li := by omega
          by_cases n7 : k = 7
          · subst n7
            by_cases n1 : Lb = 1
            · subst n1
              obtain rfl : b3 = false := hp3.out.2 (by omega)
              clear hp3
              go_wp2_with fail
              go_meet
              exact ⟨rfl, O2.out⟩
            · have d1 : ((Lb : Int) == 1) = false := by rw [beq_eq_false_iff_ne]; omega
              have g1 : ((Lb : Int) != 1) = true := by rw [bne_iff_ne]; omega
              obtain rfl : b3 = true := eq_true_of_ne_false (fun h => by have := hp3.out.1 h; omega)
              clear hp3
              go_wp2_with fail
              go_meet
              exact ⟨rfl, O2.out⟩
          · have d7 : (k == 7) = false := by rw [beq_eq_false_iff_ne]; exact n7
            have g7 : (k != 7) = true := by rw [bne_iff_ne]; exact n7
            obtain rfl : b3 = false := hp3.out.2 (by omega)
            clear hp3
            go_wp2_with fail
            go_meet
            exact ⟨rfl, O2.out⟩
  obtain ⟨rfl, O3⟩ := hcut
  clear O2
  have P1 := O3.p
  replace O3 := Lib.hid O3
  cases b3 with
  | true =>
    obtain rfl : R = false := by rw [hR.out]; rfl
    replace P1 := Lib.hid P1
    go_wp2_with fail
    go_ret
    exact ⟨rfl, P1.out⟩
  | false =>
  clear P1
  obtain ⟨l1, l2, l3, -⟩ := hp3.out.1 rfl
  clear hp3
  go_upto_block 0 with fail
  go_cut [] (fun wx => Hid (cs.all okC = true) ∧ Own W wx (cellsA B [nI k, nI t, nI n, .slice Ac Lc cc, .slice Ab Lb cb, .slice Ai Li ci] :: []))
  case first =>
    have aT : cs.take Lc = cs := by rw [hLc.out, List.take_length]
    replace aT := Lib.hid aT
    have li : (Lc : Int) ≤ 1024 := by omega
    go_wp2_with fail
    go_loopw [3] (fun i wr => ∃ j : Nat, j ≤ Lc ∧ i = nI j ∧ Hid ((cs.take j).all okC = true) ∧ Hid (Own W wr (cellsA B [nI k, nI t, nI n, .slice Ac Lc cc, .slice Ab Lb cb, .slice Ai Li ci] :: []))) (fun i _ => Lc - (intOf i).toNat)
    case atStart => exact ⟨0, by omega, rfl, rfl, O3⟩
    case round =>
      obtain ⟨j, hj, rfl, ha, O⟩ := hrel
      obtain ⟨lQ, qQ, fQ⟩ := Own.cells 0 (O.out) rfl
      have x0 := qQ 0 (by simp)
      have x1 := qQ 1 (by simp)
      have x2 := qQ 2 (by simp)
      have x3 := qQ 3 (by simp)
      have x4 := qQ 4 (by simp)
      have x5 := qQ 5 (by simp)
      simp only [List.getElem?_cons_succ, List.getElem?_cons_zero] at x0 x1 x2 x3 x4 x5
      haveI : InW B wr := ⟨lQ⟩
      clear qQ lQ fQ
      by_cases hlt : j < Lc
      · have hlti : (j : Int) < Lc := by omega
        have hP := O.out.p
        obtain ⟨x, hx⟩ : ∃ x, cs[j]? = some x := ⟨_, List.getElem?_eq_getElem (by rw [← hLc.out]; exact hlt)⟩
        obtain ⟨g, o, hA, hg, hX⟩ := loadRowC (rC.out _ hP) j x hx (by rw [← hLc.out]; exact hlt)
        have hf1 := fun h => all_no okC cs j x hx h
        have hf2 := fun h => all_take okC cs j x hx ha.out h
        have kx := fun w => mayCmd_any x w
        subst hA
        replace hX := Lib.hid (hX _ (Plus.refl _))
        replace hP := Lib.hid hP
        clear hx hg
        cases hok : okC x with
        | false =>
          rw [hok] at kx
          replace kx := Lib.hid kx
          obtain rfl : R = false := by rw [hR.out, hf1 hok]; simp
          clear hf1 hf2 hok hR
          go_wp2_with (first
            | (refine wpList_load_R 27 _ rfl rfl hX.out rfl ?_)
            | (go_at_call 53; (with_reducible refine (kx.out _).mono ?_); rintro e w' ⟨rfl, e1, rfl⟩))
          go_ret
          exact ⟨rfl, by (repeat (first | exact hP.out | apply Plus.plus | apply Plus.alloc | apply Plus.drew))⟩
        | true =>
          rw [hok] at kx
          replace kx := Lib.hid kx
          have hf3 := Lib.hid (hf2 hok)
          clear hf1 hf2 hok
          go_wp2_with (first
            | (refine wpList_load_R 27 _ rfl rfl hX.out rfl ?_)
            | (go_at_call 53; (with_reducible refine (kx.out _).mono ?_); rintro e w' ⟨rfl, e1, rfl⟩))
          go_roundw
          case rel => exact ⟨j + 1, hlt, by go_num, hf3, O.out.plus e1⟩
          case measure => simp [intOf]; omega
      · obtain rfl : j = Lc := by omega
        have hkk : ¬ (j : Int) < j := by omega
        have ha' := ha.out
        rw [aT.out] at ha'
        clear ha
        replace ha' := Lib.hid ha'
        go_wp2_with fail
        go_meet
        exact ⟨ha', O.out⟩
  obtain ⟨a1, O4⟩ := hcut
  replace O4 := Lib.hid O4
  clear O3
  go_upto_block 2 with fail
  go_cut [] (fun wx => Hid (bs.all okB = true) ∧ Own W wx (cellsA B [nI k, nI t, nI n, .slice Ac Lc cc, .slice Ab Lb cb, .slice Ai Li ci] :: []))
  case first =>
    have aT : bs.take Lb = bs := by rw [hLb.out, List.take_length]
    replace aT := Lib.hid aT
    have li : (Lb : Int) ≤ 1024 := by omega
    go_wp2_with fail
    go_loopw [4] (fun i wr => ∃ j : Nat, j ≤ Lb ∧ i = nI j ∧ Hid ((bs.take j).all okB = true) ∧ Hid (Own W wr (cellsA B [nI k, nI t, nI n, .slice Ac Lc cc, .slice Ab Lb cb, .slice Ai Li ci] :: []))) (fun i _ => Lb - (intOf i).toNat)
    case atStart => exact ⟨0, by omega, rfl, rfl, O4⟩
    case round =>
      obtain ⟨j, hj, rfl, ha, O⟩ := hrel
      obtain ⟨lQ, qQ, fQ⟩ := Own.cells 0 (O.out) rfl
      have x0 := qQ 0 (by simp)
      have x1 := qQ 1 (by simp)
      have x2 := qQ 2 (by simp)
      have x3 := qQ 3 (by simp)
      have x4 := qQ 4 (by simp)
      have x5 := qQ 5 (by simp)
      simp only [List.getElem?_cons_succ, List.getElem?_cons_zero] at x0 x1 x2 x3 x4 x5
      haveI : InW B wr := ⟨lQ⟩
      clear qQ lQ fQ
      by_cases hlt : j < Lb
      · have hlti : (j : Int) < Lb := by omega
        have hP := O.out.p
        obtain ⟨x, hx⟩ : ∃ x, bs[j]? = some x := ⟨_, List.getElem?_eq_getElem (by rw [← hLb.out]; exact hlt)⟩
        obtain ⟨g, o, hA, hg, hX⟩ := loadRowB (rB.out _ hP) j x hx (by rw [← hLb.out]; exact hlt)
        have hf1 := fun h => all_no okB bs j x hx h
        have hf2 := fun h => all_take okB bs j x hx ha.out h
        have kx := fun w => may_any x w
        subst hA
        replace hX := Lib.hid (hX _ (Plus.refl _))
        replace hP := Lib.hid hP
        clear hx hg
        cases hok : okB x with
        | false =>
          rw [hok] at kx
          replace kx := Lib.hid kx
          obtain rfl : R = false := by rw [hR.out, hf1 hok]; simp
          clear hf1 hf2 hok hR
          go_wp2_with (first
            | (refine wpList_load_R 25 _ rfl rfl hX.out rfl ?_)
            | (go_at_call 50; (with_reducible refine (kx.out _).mono ?_); rintro e w' ⟨rfl, e1, rfl⟩))
          go_ret
          exact ⟨rfl, by (repeat (first | exact hP.out | apply Plus.plus | apply Plus.alloc | apply Plus.drew))⟩
        | true =>
          rw [hok] at kx
          replace kx := Lib.hid kx
          have hf3 := Lib.hid (hf2 hok)
          clear hf1 hf2 hok
          go_wp2_with (first
            | (refine wpList_load_R 25 _ rfl rfl hX.out rfl ?_)
            | (go_at_call 50; (with_reducible refine (kx.out _).mono ?_); rintro e w' ⟨rfl, e1, rfl⟩))
          go_roundw
          case rel => exact ⟨j + 1, hlt, by go_num, hf3, O.out.plus e1⟩
          case measure => simp [intOf]; omega
      · obtain rfl : j = Lb := by omega
        have hkk : ¬ (j : Int) < j := by omega
        have ha' := ha.out
        rw [aT.out] at ha'
        clear ha
        replace ha' := Lib.hid ha'
        go_wp2_with fail
        go_meet
        exact ⟨ha', O.out⟩
  obtain ⟨a2, O5⟩ := hcut
  replace O5 := Lib.hid O5
  clear O4
  go_upto_block 4 with fail
  have aT : is.take Li = is := by rw [hLi.out, List.take_length]
  replace aT := Lib.hid aT
  have li : (Li : Int) ≤ 1024 := by omega
  go_wp2_with fail
  go_loopw [5] (fun i wr => ∃ j : Nat, j ≤ Li ∧ i = nI j ∧ Hid ((is.take j).all idB = true) ∧ Hid (Own W wr (cellsA B [nI k, nI t, nI n, .slice Ac Lc cc, .slice Ab Lb cb, .slice Ai Li ci] :: []))) (fun i _ => Li - (intOf i).toNat)
  case atStart => exact ⟨0, by omega, rfl, rfl, O5⟩
  case round =>
    obtain ⟨j, hj, rfl, ha, O⟩ := hrel
    obtain ⟨lQ, qQ, fQ⟩ := Own.cells 0 (O.out) rfl
    have x0 := qQ 0 (by simp)
    have x1 := qQ 1 (by simp)
    have x2 := qQ 2 (by simp)
    have x3 := qQ 3 (by simp)
    have x4 := qQ 4 (by simp)
    have x5 := qQ 5 (by simp)
    simp only [List.getElem?_cons_succ, List.getElem?_cons_zero] at x0 x1 x2 x3 x4 x5
    haveI : InW B wr := ⟨lQ⟩
    clear qQ lQ fQ
    by_cases hlt : j < Li
    · have hlti : (j : Int) < Li := by omega
      have hP := O.out.p
      obtain ⟨x, hx⟩ : ∃ x, is[j]? = some x := ⟨_, List.getElem?_eq_getElem (by rw [← hLi.out]; exact hlt)⟩
      obtain ⟨g, o, hA, hg, hX⟩ := loadRowI (rI.out _ hP) j x hx (by rw [← hLi.out]; exact hlt)
      have hf1 := fun h => all_no idB is j x hx h
      have hf2 := fun h => all_take idB is j x hx ha.out h
      have kx := fun w => rightID_any x w
      subst hA
      replace hX := Lib.hid (hX _ (Plus.refl _))
      replace hP := Lib.hid hP
      clear hx hg
      cases hok : idB x with
      | false =>
        rw [hok] at kx
        replace kx := Lib.hid kx
        obtain rfl : R = false := by rw [hR.out, hf1 hok]; simp
        clear hf1 hf2 hok hR
        go_wp2_with (first
          | (refine wpList_load_R 23 _ rfl rfl hX.out rfl ?_)
          | (go_at_call 46; (with_reducible refine (kx.out _).mono ?_); rintro e w' ⟨rfl, e1, rfl⟩))
        go_ret
        exact ⟨rfl, by (repeat (first | exact hP.out | apply Plus.plus | apply Plus.alloc | apply Plus.drew))⟩
      | true =>
        rw [hok] at kx
        replace kx := Lib.hid kx
        have hf3 := Lib.hid (hf2 hok)
        clear hf1 hf2 hok
        go_wp2_with (first
          | (refine wpList_load_R 23 _ rfl rfl hX.out rfl ?_)
          | (go_at_call 46; (with_reducible refine (kx.out _).mono ?_); rintro e w' ⟨rfl, e1, rfl⟩))
        go_roundw
        case rel => exact ⟨j + 1, hlt, by go_num, hf3, O.out.plus e1⟩
        case measure => simp [intOf]; omega
    · obtain rfl : j = Li := by omega
      have hkk : ¬ (j : Int) < j := by omega
      have ha' := ha.out
      rw [aT.out] at ha'
      clear ha
      obtain rfl : R = true := by rw [hR.out, a1.out, a2.out, ha']; rfl
      have hP := Lib.hid O.out.p
      clear ha'
      go_wp2_with fail
      go_ret
      exact ⟨rfl, hP.out⟩
end Go.Proofs.Ytjfjecjigakdnaa
