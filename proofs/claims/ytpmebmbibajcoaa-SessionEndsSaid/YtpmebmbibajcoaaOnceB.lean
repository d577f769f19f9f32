/- session: the law's begin: walk. -/
import Derived.Test.YtpmebmbibajcoaaOnceA
set_option linter.unusedSimpArgs false
set_option linter.unusedVariables false
namespace Go.Proofs.Ytpmebmbibajcoaa
open Go.RowKit
theorem infoOld : (Try.prog.info? 105).map (fun i => (i.zero, i.size, i.bytes)) = some (some (.agg #[.int .i64 0, .int .i64 0, .slice none 0 0]), 3, 40) := by kernel_rfl
theorem underOlds : Try.prog.underlying 64 = some (.slice 105) := by kernel_rfl
theorem src_oldAt (w : World) (n : Nat) (a b : Int) (A : Option Addr) (m c : Nat) (h0 : w.cell? ⟨n, 0, none⟩ = some (.int .i64 a)) (h1 : w.cell? ⟨n, 1, none⟩ = some (.int .i64 b)) (h2 : w.cell? ⟨n, 2, none⟩ = some (.slice A m c)) :
    Src Try.prog 3 64 (.slice (some ⟨n, 0, none⟩) 1 1) 1 [.int .i64 a, .int .i64 b, .slice A m c] w := by
  refine Src.ofCells underOlds _ _ rfl (fun j hj => ?_) (fun u hu => ?_) 1
  · match j, hj with
    | 0, _ => exact h0
    | 1, _ => exact h1
    | 2, _ => exact h2
    | j + 3, hj => simp at hj; omega
  · simp only [List.mem_cons, List.not_mem_nil, or_false] at hu
    rcases hu with rfl | rfl | rfl <;> rfl
def BeginO (W : World) (P k : Nat) (d o : Side) (next : Int) (old : List Old) (l : List Asn) (e : Ending) (w' : World) : Prop := e = .returned (.tuple #[]) ∧ Own W w' (pairA P k d o next old :: l)
set_option maxRecDepth 100000 in
set_option maxHeartbeats 2000000 in
theorem begin_0 {W wx : World} {P : Nat} {d o : Side} {next : Int} {old : List Old} {l : List Asn} (h : Own W wx (pairA P 0 d o next old :: l)) (hn : 0 ≤ next ∧ next ≤ 1000) (ho : old.length ≤ 1000) (hs : d.said.length ≤ 1000) (hw : d.way.length ≤ 100000) :
    Calls Try.prog 34 #[chV P, .int .i64 0] wx (BeginO W P 0 (newSide (next + 1) d.way) o (next + 1) (old ++ [⟨d.c.mine, d.c.yours, d.said⟩]) l) := by
  obtain ⟨i0, hi0, hz0, hz1, hz2⟩ := info_parts infoOld
  replace hi0 := Lib.hid hi0
  replace hz0 := Lib.hid hz0
  replace hz1 := Lib.hid hz1
  replace hz2 := Lib.hid hz2
  obtain ⟨Bd, Bo, x, y, z, xs, O⟩ := pair_open h
  obtain ⟨Nd, ⟨A1, c1⟩, ⟨A2, c2⟩, ⟨A3, c3⟩⟩ := x
  obtain ⟨Az, cz⟩ := z
  replace h := Lib.hid trivial
  have hpu := Lib.hid O
  obtain ⟨lP, qP, fP⟩ := O.cells 13 rfl
  obtain ⟨lB, qB, fB⟩ := O.cells 8 rfl
  have p0 := qP 0 (by simp [two])
  have p2 := qP 2 (by simp [two])
  have p3 := qP 3 (by simp [two])
  have b0 := qB 0 (by simp)
  have b1 := qB 1 (by simp)
  have b3 := qB 3 (by simp)
  simp [two] at p0 p2 p3
  simp only [List.getElem?_cons_succ, List.getElem?_cons_zero, slV] at b0 b1 b3 p3
  have f0 := fP 0
  have f2 := fP 2
  have f3 := fP 3
  haveI : InW P wx := ⟨lP⟩
  haveI : InW Bd wx := ⟨lB⟩
  have hPB : ¬ P = Bd := Own.ne 8 (O.pull 13 rfl) rfl
  have hBP : ¬ Bd = P := fun h => hPB h.symm
  clear qP fP qB fB
  have kE := epochs_O (O.pull 9 rfl)
  dsimp only at kE
  replace kE := Lib.hid kE
  have kN := Lib.hid (fun (wz : World) l (O' : Own W wz l) => new_O O' (next + 1) (by omega))
  have hxs := Own.fact 0 O rfl
  replace O := Lib.hid O
  go_enter Try.func34, Try.ntmps34
  go_upto_if 15 with (fail)
  go_cut [] (fun wz => ∃ A c, Own W wz (afterOld P 0 Bd Bo d o next old (Nd, (A1, c1), (A2, c2), (A3, c3)) y xs A c ⟨d.c.mine, d.c.yours, d.said⟩ (A1, c1) l))
  case first =>
    go_upto_region 2 with (go_at_call 22; (with_reducible refine kE.out.mono ?_); rintro e w' ⟨rfl, x1, rfl⟩)
    have O1 := O.out.plus x1
    obtain ⟨w1, hw1⟩ : ∃ w1, w1 = wx.plus x1 := ⟨_, rfl⟩
    have b1' : w1.cell? ⟨Bd, 1, none⟩ = some (.slice A1 d.said.length c1) := by rw [hw1, World.cell?_plus]; exact b1
    have p0' : w1.cell? ⟨P, 0, none⟩ = some (chV Bd) := by rw [hw1, World.cell?_plus]; exact p0
    have p3' : w1.cell? ⟨P, 3, none⟩ = some (.slice Az old.length cz) := by rw [hw1, World.cell?_plus]; exact p3
    have f3' : w1.frozen? ⟨P, 3, none⟩ = false := by rw [hw1, World.frozen?_plus]; exact f3
    rw [← hw1] at O1 ⊢
    haveI : InW P w1 := ⟨(O1.cells 13 rfl).1⟩
    haveI : InW Bd w1 := ⟨(O1.cells 8 rfl).1⟩
    have hmi := Lib.hid hxs
    clear hw1 p0 p2 p3 b0 b1 b3 f0 f2 f3 lP lB kE kN hpu hxs O
    have OP := Lib.hid ((O1.pull 1 rfl).alloc (.cells #[.int .i64 d.c.mine, .int .i64 d.c.yours, .slice A1 d.said.length c1] 105)).drew
    replace O1 := Lib.hid O1
    go_region_law ((go_loud (refine step_append_O (by rfl) _ _ 64 64 (by rfl) 105 i0 _ 3 40 underOlds hi0.out hz0.out hz1.out hz2.out rfl (by rfl) OP.out (xv := .slice (some ⟨w1.heap.size, 0, none⟩) 1 1) (by rfl) (src_oldAt _ w1.heap.size d.c.mine d.c.yours A1 d.said.length c1 (by simp [go_sem]) (by simp [go_sem]) (by simp [go_sem])) (by unfold maxLen; omega) (by omega) ?_); intro A6 c6 w6 O6; obtain ⟨lP6, qP6, fP6⟩ := O6.cells 13 rfl; have p36 := qP6 3 (by simp [two]); simp [two] at p36; have f36 := fP6 3; haveI : InW P w6 := ⟨lP6⟩; clear qP6 fP6))
    all_goals
      have O7 := Own.push (pairL P 0 Bd Bo d o next old (Nd, (A1, c1), (A2, c2), A3, c3) y (Az, cz) xs l) 1 (by simp [pairL, oldsF]) O6
      have O8 := O7.setCellAt 13 3 (.slice A6 (old.length + 1) c6) rfl (by simp [two])
      go_wp2_with fail
      go_meet
      exact ⟨A6, c6, O8⟩
  clear p0 p2 p3 b0 b1 b3 f0 f2 f3 lP lB kE hpu O
  obtain ⟨A6, c6, O1⟩ := hcut
  obtain ⟨lP, qP, fP⟩ := O1.cells 13 rfl
  have p0 := qP 0 (by simp [two])
  have p2 := qP 2 (by simp [two])
  simp [two] at p0 p2
  have f2 := fP 2
  haveI : InW P wc := ⟨lP⟩
  clear qP fP
  have O2 := O1.setCellAt 13 2 (.int .i64 (next + 1)) rfl (by simp [two])
  go_upto_region 4 with fail
  obtain ⟨w2, hw2⟩ : ∃ w2, w2 = wc.setCell ⟨P, 2, none⟩ (.int .i64 (next + 1)) := ⟨_, rfl⟩
  rw [← hw2] at O2 ⊢
  clear hw2 p0 p2 f2 lP O1
  obtain ⟨lP, qP, fP⟩ := O2.cells 13 rfl
  have p2 := qP 2 (by simp [two])
  simp [two] at p2
  haveI : InW P w2 := ⟨lP⟩
  clear qP fP
  have k4 := Lib.hid (kN.out _ _ O2)
  go_upto_region 5 with (go_at_call 11; (with_reducible refine k4.out.mono ?_); rintro e w3 ⟨N, rfl, O3⟩)
  clear p2 lP k4 kN O2
  obtain ⟨lP, qP, fP⟩ := O3.cells 14 rfl
  obtain ⟨lB, qB, fB⟩ := O3.cells 9 rfl
  have p0 := qP 0 (by simp [two])
  simp [two] at p0
  have b3 := qB 3 (by simp)
  simp only [List.getElem?_cons_succ, List.getElem?_cons_zero, slV] at b3
  have f0 := fP 0
  haveI : InW P w3 := ⟨lP⟩
  haveI : InW Bd w3 := ⟨lB⟩
  clear qP fP qB fB
  have O4 := (O3.setCellAt 14 0 (chV w3.heap.size) rfl (by simp [two])).newCells [chV N, .slice none 0 0, .slice none 0 0, .slice A3 d.way.length c3] 68
  rw [World.size_setCell] at O4
  replace O4 := Lib.hid O4
  replace O3 := Lib.hid O3
  go_wp2_with fail
  go_end0
  refine ⟨rfl, ?_⟩
  generalize w3.setCell ⟨P, 0, none⟩ (chV w3.heap.size) = w4 at *
  replace O4 := O4.out
  generalize w3.heap.size = B' at *
  have Q1 := Own.bothSnoc ((O4.pull 12 rfl).pull 5 rfl)
  have Q2 := (((((Q1.pull 10 rfl).drop).pull 10 rfl).drop).pull 10 rfl).drop
  have Q3 := (Q2.pull 11 rfl).pull 11 rfl
  have Q4 := Own.add (Own.add Q3 (Chg.refl _ _) (Q := slA 1 (.slice none 0 0) 0 []) (A := fun _ => False) ⟨fun k => by simp [Value.ownBlock], Sl.nil _ _⟩ (fun _ h => h.elim)) (Chg.refl _ _) (Q := slA 1 (.slice none 0 0) 0 []) (A := fun _ => False) ⟨fun k => by simp [Value.ownBlock], Sl.nil _ _⟩ (fun _ h => h.elim)
  have Q5 := (Q4.pull 6 rfl).pull 6 rfl
  have Q6 := ((((Q5.pull 13 rfl).pull 13 rfl).pull 13 rfl).pull 13 rfl).pull 13 rfl
  have Q7 := (((Q6.pull 11 rfl).pull 12 rfl).drop).pull 12 rfl
  have Q8 := Own.add Q7 (Chg.refl _ _) (Q := factA ((xs ++ [(A1, c1)]).length = (old ++ [(⟨d.c.mine, d.c.yours, d.said⟩ : Old)]).length)) (A := fun _ => False) ⟨fun k h => h, by simp [hxs]⟩ (fun _ h => h.elim)
  have hl : (old ++ [(⟨d.c.mine, d.c.yours, d.said⟩ : Old)]).length = old.length + 1 := by simp
  refine pair_shut (x := (N, (none, 0), (none, 0), (A3, c3))) (y := y) (z := (A6, c6)) (xs := xs ++ [(A1, c1)]) (Bd := B') (Bo := Bo) ?_
  simp only [pairL, oldsF, slV]
  rw [oldCs_append _ _ _ _ hxs, oldSls_append _ _ _ _ hxs]
  rw [hl] at Q8 ⊢
  exact Q8

end Go.Proofs.Ytpmebmbibajcoaa
