/- session: the reference's Posts: walk. -/
import Derived.Test.YtpmebmbibajcoaaSesI
import Derived.Deep.CutBlock
set_option linter.unusedSimpArgs false
set_option linter.unusedVariables false
namespace Go.Proofs.Ytpmebmbibajcoaa
open Go.RowKit
theorem src_postAt (w : World) (n : Nat) (m y a s : Int) (t : ByteArray) (h0 : w.cell? ⟨n, 0, none⟩ = some (.int .i64 m)) (h1 : w.cell? ⟨n, 1, none⟩ = some (.int .i64 y)) (h2 : w.cell? ⟨n, 2, none⟩ = some (.int .i64 a)) (h3 : w.cell? ⟨n, 3, none⟩ = some (.int .i64 s)) (h4 : w.cell? ⟨n, 4, none⟩ = some (.string t)) :
    Src Try.prog 5 34 (.slice (some ⟨n, 0, none⟩) 1 1) 1 [.int .i64 m, .int .i64 y, .int .i64 a, .int .i64 s, .string t] w := by
  refine Src.ofCells underPosts _ _ rfl (fun j hj => ?_) (fun u hu => ?_) 1
  · match j, hj with
    | 0, _ => exact h0
    | 1, _ => exact h1
    | 2, _ => exact h2
    | 3, _ => exact h3
    | 4, _ => exact h4
    | j + 5, hj => simp at hj; omega
  · simp only [List.mem_cons, List.not_mem_nil, or_false] at hu
    rcases hu with rfl | rfl | rfl | rfl | rfl <;> rfl
def RefPostsO (W : World) (M : Nat) (c : Ch) (l : List Asn) (ps : List Post) (e : Ending) (w' : World) : Prop :=
  ∃ A cap, e = .returned (.slice A ps.length cap) ∧ Own W w' (refA M c :: slA 5 (.slice A ps.length cap) ps.length (postCs ps) :: l)
set_option maxRecDepth 100000 in
set_option maxHeartbeats 2000000 in
theorem refPosts_O {W wx : World} {l : List Asn} {M : Nat} {c : Ch} (h : Own W wx (refA M c :: l)) (hy : 0 ≤ c.yours) (hf : 1 ≤ c.first ∧ c.first ≤ 1000000000000000) (hw : c.wait.length ≤ 1000000) :
    Calls Try.prog 21 #[chV M] wx (RefPostsO W M { c with owes := false } l (postsL c)) := by
  obtain ⟨i0, hi0, hz0, hz1, hz2⟩ := info_parts infoPost
  replace hi0 := Lib.hid hi0
  replace hz0 := Lib.hid hz0
  replace hz1 := Lib.hid hz1
  replace hz2 := Lib.hid hz2
  obtain ⟨L, hL⟩ : ∃ L, L = textPs c (postK c) := ⟨_, rfl⟩
  have hLl : L.length = postK c := by rw [hL, textPs_length]
  have hpK : postK c = if c.yours = 0 then 0 else min c.wait.length 8 := rfl
  replace hL := Lib.hid hL
  replace hLl := Lib.hid hLl
  replace hpK := Lib.hid hpK
  have O0 := (Own.add h (Chg.refl _ _) (Q := slA 5 (.slice none 0 0) 0 []) (A := fun _ => False) ⟨fun k => by simp [Value.ownBlock], Sl.nil _ _⟩ (fun _ h => h.elim)).rot1
  replace h := Lib.hid trivial
  go_enter Try.func21, Try.ntmps21
  go_upto_block 0 with fail
  go_cut [3] (fun v wz => ∃ A cap, v = .slice A L.length cap ∧ Own W wz (refA M c :: slA 5 (.slice A L.length cap) L.length (postCs L) :: l))
  case first =>
    go_wp2_with fail
    go_loopw [3, 4] (fun v i wr => ∃ (k : Nat) (A : Option Addr) (cap : Nat), k ≤ c.wait.length ∧ k ≤ 8 ∧ (k = 0 ∨ c.yours ≠ 0) ∧ i = .int .i64 k ∧ v = .slice A k cap ∧ Own W wr (refA M c :: slA 5 (.slice A k cap) k (postCs (textPs c k)) :: l)) (fun _ i _ => c.wait.length - (intOf i).toNat)
    case atStart => exact ⟨0, none, 0, Nat.zero_le _, by omega, .inl rfl, rfl, rfl, O0⟩
    case round =>
      clear O0
      obtain ⟨k, A, cap, hk, hk8, hky, rfl, rfl, OX⟩ := hrel
      obtain ⟨⟨A0, cap0⟩, OO⟩ := Own.ex OX
      obtain ⟨lM, c0, c1, c2, c3, c4, c5, c6, fM⟩ := Own.refAt OO
      have hsl := Own.sl 1 OO rfl
      haveI : InW M wr := ⟨lM⟩
      clear c3 c5 c6 fM
      by_cases hgo : k < c.wait.length ∧ k < 8 ∧ 0 < c.yours
      · obtain ⟨hlt, hlt8, hyp⟩ := hgo
        obtain ⟨g, o, rfl, hg, hcells⟩ := hsl.cellsOf (by omega)
        haveI : InW g wr := ⟨hg⟩
        obtain ⟨q0, q1⟩ := numCs_get c.first c.wait k hlt
        have d0 := (hcells (k * 2) (by omega)).trans q0
        have d1 : wr.cell? ⟨g, o + k * 2 + 1, none⟩ = _ := (hcells (k * 2 + 1) (by omega)).trans q1
        have hq := Lib.hid (show _ ∧ _ from ⟨q0, q1⟩)
        have htx : textP c k = ⟨c.mine, c.yours, c.last, c.first + k, c.wait.getD k ⟨#[]⟩⟩ := rfl
        generalize c.wait.getD k ⟨#[]⟩ = y at *
        replace htx := Lib.hid htx
        clear hcells q0 q1 hsl
        have hlti : (k : Int) < c.wait.length := by omega
        have hlt8i : (k : Int) < 8 := by omega
        have hne : c.yours ≠ 0 := by omega
        replace hne := Lib.hid hne
        replace hky := Lib.hid hky
        simp only [refF, List.cons_append, List.nil_append] at OO
        have OA := Lib.hid OO.rot2
        replace OO := Lib.hid OO
        replace OX := Lib.hid OX
        go_upto_region 5 with fail
        go_region_held3 (fun w' => w'.cell? ⟨M, 0, none⟩ = some (.int .i64 c.mine) ∧ w'.cell? ⟨M, 1, none⟩ = some (.int .i64 c.yours) ∧ w'.cell? ⟨M, 2, none⟩ = some (.slice (some ⟨g, o, none⟩) c.wait.length cap0) ∧ w'.cell? ⟨M, 4, none⟩ = some (.int .i64 c.last) ∧ w'.cell? ⟨g, o + k * 2, none⟩ = some (.int .i64 (c.first + k)) ∧ w'.cell? ⟨g, o + k * 2 + 1, none⟩ = some (.string y)) (simp [go_sem, *]) ((go_loud (refine step_append_O (by rfl) _ _ 34 34 (by rfl) 32 i0 _ 5 48 underPosts hi0.out hz0.out hz1.out hz2.out rfl (by rfl) ((OA.out.alloc _).drew) (xv := .slice (some ⟨wr.heap.size, 0, none⟩) 1 1) (by rfl) (src_postAt _ wr.heap.size c.mine c.yours c.last (c.first + k) y (by simp [go_sem]) (by simp [go_sem]) (by simp [go_sem]) (by simp [go_sem]) (by simp [go_sem])) (by unfold maxLen; omega) (by omega) ?_); intro A3 cb3 w6 O6; obtain ⟨lM6, qM6, _⟩ := O6.cells 1 rfl; have c06 := qM6 0 (by simp); have c16 := qM6 1 (by simp); have c26 := qM6 2 (by simp); have c46 := qM6 4 (by simp); simp only [List.getElem?_cons_succ, List.getElem?_cons_zero] at c06 c16 c26 c46; obtain ⟨g6, o6, he6, hg6, hc6⟩ := (O6.sl 2 rfl).cellsOf (by omega); cases he6; have d06 := (hc6 (k * 2) (by omega)).trans hq.out.1; have d16 : w6.cell? ⟨g, o + k * 2 + 1, none⟩ = _ := (hc6 (k * 2 + 1) (by omega)).trans hq.out.2; clear qM6 hc6))
        all_goals
          have hnx : postCs (textPs c k) ++ [.int .i64 c.mine, .int .i64 c.yours, .int .i64 c.last, .int .i64 (c.first + k), .string y] = postCs (textPs c (k + 1)) := by
            rw [textPs_succ, postCs_append, htx.out]; rfl
          rw [hnx] at O6
          have O7 := O6.perm ((List.Perm.swap _ _ _).trans (List.Perm.cons _ (List.Perm.swap _ _ _)))
          have O8 := Own.mk (refF M c) (some ⟨g, o, none⟩, cap0) O7
          clear c06 c16 c26 c46 d06 d16 lM6 O6 O7
          go_wp2_with fail
          go_roundw
          case rel => exact ⟨k + 1, A3, cb3, hlt, hlt8, .inr hne.out, by go_num, rfl, O8⟩
          case measure => simp [intOf]; omega
      · have hLK : L = textPs c k := by
          rw [hL.out, hpK.out]
          by_cases hz : c.yours = 0
          · rw [if_pos hz, show k = 0 by omega]
          · rw [if_neg hz, show min c.wait.length 8 = k by omega]
        have hlen : L.length = k := by rw [hLK, textPs_length]
        replace hLK := Lib.hid hLK
        replace hlen := Lib.hid hlen
        replace OX := Lib.hid OX
        have hend : k < c.wait.length ∧ k < 8 ∧ c.yours = 0 ∨ k < c.wait.length ∧ 8 ≤ k ∨ c.wait.length ≤ k := by omega
        clear hsl
        rcases hend with ⟨a1, a2, a3⟩ | ⟨a1, a2⟩ | a1
        · have b1 : (k : Int) < c.wait.length := by omega
          have b2 : (k : Int) < 8 := by omega
          have b3 : ¬ 0 < c.yours := by omega
          have b4 : decide (0 < c.yours) = false := decide_eq_false b3
          replace a3 := Lib.hid a3
          replace hgo := Lib.hid hgo
          go_wp2_with fail
          go_meet
          exact ⟨A, cap, by rw [hlen.out], by rw [hlen.out, hLK.out]; exact OX.out⟩
        · have b1 : (k : Int) < c.wait.length := by omega
          have b2 : ¬ (k : Int) < 8 := by omega
          replace hgo := Lib.hid hgo
          go_wp2_with fail
          go_meet
          exact ⟨A, cap, by rw [hlen.out], by rw [hlen.out, hLK.out]; exact OX.out⟩
        · have b1 : ¬ (k : Int) < c.wait.length := by omega
          have b2 : decide (k < c.wait.length) = false := decide_eq_false (by omega)
          replace hgo := Lib.hid hgo
          go_wp2_with fail
          go_meet
          exact ⟨A, cap, by rw [hlen.out], by rw [hlen.out, hLK.out]; exact OX.out⟩
  clear O0
  obtain ⟨A, cap, rfl, OX⟩ := hcut
  by_cases h0 : postK c = 0
  · have hL0 : L.length = 0 := by rw [hLl.out]; exact h0
    have hLn : L = [] := List.eq_nil_of_length_eq_zero hL0
    have hP : postsL c = (if c.owes then [bareP c] else []) ++ (if c.met then [] else [{ bareP c with yours := 0 }]) := by unfold postsL; rw [if_pos h0]
    replace hP := Lib.hid hP
    replace h0 := Lib.hid h0
    subst hLn
    clear hL0
    replace hLl := Lib.hid trivial
    replace hL := Lib.hid trivial
    obtain ⟨l1, hl1⟩ : ∃ l1, l1 = (if c.owes then [bareP c] else []) := ⟨_, rfl⟩
    have hl1z : l1.length ≤ 1 := by rw [hl1]; split <;> simp
    rw [← hl1] at hP
    replace hl1 := Lib.hid hl1
    simp only [List.length_nil] at OX ⊢
    obtain ⟨⟨A0, cap0⟩, OO⟩ := Own.ex OX
    obtain ⟨lM, c0, c1, c2, c3, c4, c5, c6, fM⟩ := Own.refAt OO
    haveI : InW M wc := ⟨lM⟩
    have f6 := fM 6
    simp only [refF, List.cons_append, List.nil_append] at OO
    have OA := Lib.hid OO.rot2
    clear c2 c3 fM

    replace OO := Lib.hid OO
    go_upto_if 68 with (fail)
    go_cut [3] (fun v wz => ∃ A cap, v = .slice A l1.length cap ∧ Own W wz (refA M c :: slA 5 (.slice A l1.length cap) l1.length (postCs l1) :: l))
    case first =>
      cases hco : c.owes with
      | false =>
        have hE := Lib.hid (show l1 = [] by rw [hl1.out, hco]; rfl)
        replace hco := Lib.hid hco
        go_wp2_with fail
        go_meet
        rw [hE.out]
        exact ⟨A, cap, rfl, OX⟩
      | true =>
        have hE := Lib.hid (show l1 = [bareP c] by rw [hl1.out, hco]; rfl)
        replace hco := Lib.hid hco
        go_upto_region 8 with fail
        go_region_held3 (fun w' => w'.cell? ⟨M, 0, none⟩ = some (.int .i64 c.mine) ∧ w'.cell? ⟨M, 1, none⟩ = some (.int .i64 c.yours) ∧ w'.cell? ⟨M, 4, none⟩ = some (.int .i64 c.last)) (simp [go_sem, *]) ((go_loud (refine step_append_O (by rfl) _ _ 34 34 (by rfl) 32 i0 _ 5 48 underPosts hi0.out hz0.out hz1.out hz2.out rfl (by rfl) ((OA.out.alloc _).drew) (xv := .slice (some ⟨wc.heap.size, 0, none⟩) 1 1) (by rfl) (src_postAt _ wc.heap.size c.mine c.yours c.last 0 ⟨#[]⟩ (by simp [go_sem]) (by simp [go_sem]) (by simp [go_sem]) (by simp [go_sem]) (by simp [go_sem])) (by unfold maxLen; omega) (by omega) ?_); intro A3 cb3 w6 O6; obtain ⟨lM6, qM6, fM6⟩ := O6.cells 1 rfl; haveI : InW M w6 := ⟨lM6⟩; have c06 := qM6 0 (by simp); have c16 := qM6 1 (by simp); have c46 := qM6 4 (by simp); have c66 := qM6 6 (by simp); simp only [List.getElem?_cons_succ, List.getElem?_cons_zero] at c06 c16 c46 c66; have f66 := fM6 6; clear qM6 fM6))

        all_goals
          have O7 := O6.perm ((List.Perm.swap _ _ _).trans (List.Perm.cons _ (List.Perm.swap _ _ _)))
          have O8 := Own.mk (refF M c) (A0, cap0) O7
          clear c06 c16 c46 c66 f66 lM6 O6 O7
          go_wp2_with fail
          go_meet
          rw [hE.out]
          exact ⟨A3, cb3, rfl, O8⟩
    clear OX OO OA c0 c1 c4 c5 c6 f6 lM
    obtain ⟨A, cap, rfl, OX⟩ := hcut
    obtain ⟨⟨A0, cap0⟩, OO⟩ := Own.ex OX
    obtain ⟨lM, c0, c1, c2, c3, c4, c5, c6, fM⟩ := Own.refAt OO
    haveI : InW M wc := ⟨lM⟩
    have f6 := fM 6
    simp only [refF, List.cons_append, List.nil_append] at OO
    have OA := Lib.hid OO.rot2
    clear c2 c3 fM

    have hset := Lib.hid (Own.refOwes (x := (A0, cap0)) (l := slA 5 (.slice A l1.length cap) l1.length (postCs l1) :: l) OO false)
    replace OO := Lib.hid OO
    cases hcm : c.met with
    | true =>
      have hE := Lib.hid (show postsL c = l1 by rw [hP.out, hcm]; simp)
      rw [hcm] at c5
      replace hcm := Lib.hid hcm
      go_wp2_with fail
      go_ret
      rw [hE.out]
      exact ⟨A, cap, rfl, hset.out⟩
    | false =>
      have hE := Lib.hid (show postsL c = l1 ++ [{ bareP c with yours := 0 }] by rw [hP.out, hcm]; simp)
      rw [hcm] at c5
      replace hcm := Lib.hid hcm
      go_upto_region 10 with fail
      go_region_held3 (fun w' => w'.cell? ⟨M, 0, none⟩ = some (.int .i64 c.mine) ∧ w'.cell? ⟨M, 1, none⟩ = some (.int .i64 c.yours) ∧ w'.cell? ⟨M, 4, none⟩ = some (.int .i64 c.last)) (simp [go_sem, *]) ((go_loud (refine step_append_O (by rfl) _ _ 34 34 (by rfl) 32 i0 _ 5 48 underPosts hi0.out hz0.out hz1.out hz2.out rfl (by rfl) ((OA.out.alloc _).drew) (xv := .slice (some ⟨wc.heap.size, 0, none⟩) 1 1) (by rfl) (src_postAt _ wc.heap.size c.mine 0 c.last 0 ⟨#[]⟩ (by simp [go_sem]) (by simp [go_sem]) (by simp [go_sem]) (by simp [go_sem]) (by simp [go_sem])) (by unfold maxLen; omega) (by omega) ?_); intro A3 cb3 w6 O6; obtain ⟨lM6, qM6, fM6⟩ := O6.cells 1 rfl; haveI : InW M w6 := ⟨lM6⟩; have c06 := qM6 0 (by simp); have c16 := qM6 1 (by simp); have c46 := qM6 4 (by simp); have c66 := qM6 6 (by simp); simp only [List.getElem?_cons_succ, List.getElem?_cons_zero] at c06 c16 c46 c66; have f66 := fM6 6; clear qM6 fM6))

      all_goals
        have O7 := O6.perm ((List.Perm.swap _ _ _).trans (List.Perm.cons _ (List.Perm.swap _ _ _)))
        have O9 := Own.refOwes (x := (A0, cap0)) (l := slA 5 (.slice A3 (l1.length + 1) cb3) (l1.length + 1) (postCs l1 ++ [.int .i64 c.mine, .int .i64 0, .int .i64 c.last, .int .i64 0, .string ⟨#[]⟩]) :: l) O7 false
        clear O7 O6 hset
        go_wp2_with fail
        go_ret
        have hlen : (l1 ++ [({ bareP c with yours := 0 } : Post)]).length = l1.length + 1 := by simp
        have hcs : postCs l1 ++ [.int .i64 c.mine, .int .i64 0, .int .i64 c.last, .int .i64 0, .string ⟨#[]⟩] = postCs (l1 ++ [({ bareP c with yours := 0 } : Post)]) := by rw [postCs_append]; rfl
        rw [hcs, ← hlen] at O9
        rw [hE.out, ← hlen]
        exact ⟨A3, cb3, rfl, O9⟩
  · have hP : postsL c = L := by rw [hL.out]; unfold postsL; rw [if_neg h0]
    have hlp : 0 < L.length := by rw [hLl.out]; omega
    have hlpi : (0 : Int) < L.length := by omega
    have hlpb : decide (0 < L.length) = true := decide_eq_true hlp
    replace hP := Lib.hid hP
    replace h0 := Lib.hid h0
    obtain ⟨⟨A0, cap0⟩, OO⟩ := Own.ex OX
    obtain ⟨lM, c0, c1, c2, c3, c4, c5, c6, fM⟩ := Own.refAt OO
    haveI : InW M wc := ⟨lM⟩
    have f6 := fM 6
    simp only [refF, List.cons_append, List.nil_append] at OO
    have OA := Lib.hid OO.rot2
    clear c2 c3 fM

    have hset := Lib.hid (Own.refOwes (x := (A0, cap0)) (l := slA 5 (.slice A L.length cap) L.length (postCs L) :: l) OO false)
    replace OO := Lib.hid OO
    replace OX := Lib.hid OX
    go_wp2_with fail
    go_ret
    rw [hP.out]
    exact ⟨A, cap, rfl, hset.out⟩
end Go.Proofs.Ytpmebmbibajcoaa
