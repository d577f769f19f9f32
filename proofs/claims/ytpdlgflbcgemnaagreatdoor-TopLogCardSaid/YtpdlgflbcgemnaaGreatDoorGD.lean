/- Plain laws and walks: Cod9, CodB, CodOp. -/
import Derived.Test.YtpdlgflbcgemnaaGreatDoorCod8
import Derived.Test.YtpdlgflbcgemnaaGreatDoorGf
import Derived.Test.YtpdlgflbcgemnaaGreatDoorGd
-- Cod9
/- codec: awake: walks. -/
set_option linter.unusedSimpArgs false
set_option linter.unusedVariables false
namespace Go.Proofs.YtpdlgflbcgemnaaGreatDoor
open Go.RowKit
set_option maxRecDepth 100000
set_option maxHeartbeats 400000
theorem rd_1 : Octs.rInt ⟨#[1, 2, 1, 1]⟩ false = (2, ⟨#[1, 1]⟩, false) := by decide +kernel
theorem rd_2 : Octs.rInt ⟨#[1, 1]⟩ false = (1, ⟨#[]⟩, false) := by decide +kernel
theorem decode_ok (w : World) : Calls Tryz.prog 13 #[.string ⟨#[1, 2, 1, 1]⟩] w fun e w' => e = .returned (.tuple #[msgV 2 1 0 nilS nilS nilS, nI 0]) ∧ w.Plus w' := by
  have O0 : Own w (w.alloc (.cells #[nI 0, nI 0, nI 0, nilS, nilS, nilS] 39)) (cellsA w.heap.size [nI 0, nI 0, nI 0, nilS, nilS, nilS] :: []) := Own.newCells (Own.start w) [nI 0, nI 0, nI 0, nilS, nilS, nilS] 39
  generalize hR : w.heap.size = R0 at *
  generalize hwy : w.alloc (.cells #[nI 0, nI 0, nI 0, nilS, nilS, nilS] 39) = wy at *
  have k0 := Lib.hid (Octs.of_O (s := ⟨#[1, 2, 1, 1]⟩) O0 (by decide))
  clear O0
  go_enter Tryz.func13, Tryz.ntmps13
  go_upto_region 3 with (first
    | (go_at_call 39; (with_reducible refine k0.out.mono ?_); rintro e w1 ⟨N, rfl, O1⟩; have kI := Octs.rdInt_O O1 (by decide); rw [rd_1] at kI; replace kI := Lib.hid kI; clear O1)
    | (go_at_call 40; (with_reducible refine kI.out.mono ?_); rintro e w2 ⟨rfl, O2⟩))
  clear kI k0
  have O3 : Own w (w2.alloc (.cells #[nI 2, nI 0, nI 0, nilS, nilS, nilS] 39)) (cellsA w2.heap.size [nI 2, nI 0, nI 0, nilS, nilS, nilS] :: Octs.rdA N ⟨#[1, 1]⟩ false :: cellsA R0 [nI 0, nI 0, nI 0, nilS, nilS, nilS] :: []) := Own.newCells O2 [nI 2, nI 0, nI 0, nilS, nilS, nilS] 39
  generalize w2.heap.size = M at *
  obtain ⟨w3, hw3⟩ : ∃ w3, w2.alloc (.cells #[nI 2, nI 0, nI 0, nilS, nilS, nilS] 39) = w3 := ⟨_, rfl⟩
  rw [hw3] at O3 ⊢
  clear hw3 O2
  obtain ⟨lM, qM, fM⟩ := O3.cells 0 rfl
  have m0 := qM 0 (by simp)
  have m1 := qM 1 (by simp)
  have m2 := qM 2 (by simp)
  have m3 := qM 3 (by simp)
  have m4 := qM 4 (by simp)
  have m5 := qM 5 (by simp)
  simp only [List.getElem?_cons_succ, List.getElem?_cons_zero] at m0 m1 m2 m3 m4 m5
  haveI : InW M w3 := ⟨lM⟩
  clear qM lM
  go_upto_region 4 with (go_at_call 27; (with_reducible refine (of_2 _).mono ?_); rintro e w' ⟨rfl, e1, rfl⟩)
  have O4 : Own w ((w3.plus e1).alloc (.cells #[.bool true, .bool false, .bool false, .bool false, .bool false] 67)) (cellsA (w3.heap.size + e1.objs.size) [.bool true, .bool false, .bool false, .bool false, .bool false] :: cellsA M [nI 2, nI 0, nI 0, nilS, nilS, nilS] :: Octs.rdA N ⟨#[1, 1]⟩ false :: cellsA R0 [nI 0, nI 0, nI 0, nilS, nilS, nilS] :: []) := by
    have := Own.newCells (O3.plus e1) [.bool true, .bool false, .bool false, .bool false, .bool false] 67
    rw [World.size_plus_eq] at this
    exact this
  generalize w3.heap.size + e1.objs.size = Fb at *
  obtain ⟨w4, hw4⟩ : ∃ w4, (w3.plus e1).alloc (.cells #[.bool true, .bool false, .bool false, .bool false, .bool false] 67) = w4 := ⟨_, rfl⟩
  rw [hw4] at O4 ⊢
  clear hw4 O3 m0 m1 m2 m3 m4 m5 fM
  obtain ⟨lF, qF, _⟩ := O4.cells 0 rfl
  have f0 := qF 0 (by simp)
  have f1 := qF 1 (by simp)
  have f2 := qF 2 (by simp)
  have f3 := qF 3 (by simp)
  have f4 := qF 4 (by simp)
  simp only [List.getElem?_cons_succ, List.getElem?_cons_zero] at f0 f1 f2 f3 f4
  haveI : InW Fb w4 := ⟨lF⟩
  clear qF lF
  have kI := Octs.rdInt_O (O4.pull 2 rfl) (by decide)
  rw [rd_2] at kI
  replace kI : RowKit.Hid (Calls Tryz.prog 40 #[Octs.rdV N] w4 (OwnTo w (nI 1) (Octs.rdA N ⟨#[]⟩ false :: cellsA Fb [.bool true, .bool false, .bool false, .bool false, .bool false] :: cellsA M [nI 2, nI 0, nI 0, nilS, nilS, nilS] :: cellsA R0 [nI 0, nI 0, nI 0, nilS, nilS, nilS] :: []))) := Lib.hid kI
  clear O4
  go_upto_region 6 with (go_at_call 40; (with_reducible refine kI.out.mono ?_); rintro e w5 ⟨rfl, O5⟩; clear f0 f1 f2 f3 f4 kI; obtain ⟨lM, qM, fM⟩ := O5.cells 2 rfl; have m1 := qM 1 (by simp); have g1 := fM 1; simp only [List.getElem?_cons_succ, List.getElem?_cons_zero] at m1; haveI : InW M w5 := ⟨lM⟩; clear qM fM lM)
  have O6 := O5.setCellAt 2 1 (nI 1) rfl (by simp)
  simp only [List.set_cons_succ, List.set_cons_zero] at O6
  obtain ⟨w6, hw6⟩ : ∃ w6, w5.setCell ⟨M, 1, none⟩ (nI 1) = w6 := ⟨_, rfl⟩
  rw [hw6] at O6 ⊢
  clear hw6 O5 m1 g1
  obtain ⟨lF, qF, _⟩ := O6.cells 1 rfl
  have f0 := qF 0 (by simp)
  have f1 := qF 1 (by simp)
  have f2 := qF 2 (by simp)
  have f3 := qF 3 (by simp)
  have f4 := qF 4 (by simp)
  simp only [List.getElem?_cons_succ, List.getElem?_cons_zero] at f0 f1 f2 f3 f4
  haveI : InW Fb w6 := ⟨lF⟩
  clear qF lF
  obtain ⟨lM, qM, _⟩ := O6.cells 2 rfl
  have m0 := qM 0 (by simp)
  have m1 := qM 1 (by simp)
  have m2 := qM 2 (by simp)
  have m3 := qM 3 (by simp)
  have m4 := qM 4 (by simp)
  have m5 := qM 5 (by simp)
  simp only [List.getElem?_cons_succ, List.getElem?_cons_zero] at m0 m1 m2 m3 m4 m5
  haveI : InW M w6 := ⟨lM⟩
  clear qM lM
  have kD := Lib.hid (Octs.rdDone_O O6)
  obtain ⟨lR, qR, fR⟩ := O6.cells 3 rfl
  have r0 := qR 0 (by simp)
  have r1 := qR 1 (by simp)
  have r2 := qR 2 (by simp)
  have r3 := qR 3 (by simp)
  have r4 := qR 4 (by simp)
  have r5 := qR 5 (by simp)
  simp only [List.getElem?_cons_succ, List.getElem?_cons_zero] at r0 r1 r2 r3 r4 r5
  haveI : InW R0 w6 := ⟨lR⟩
  clear qR lR
  have hd0 : Octs.rDone ⟨#[]⟩ false = 0 := by decide +kernel
  rw [hd0] at kD
  replace O6 := Lib.hid O6
  clear hd0
  go_wp2_with (first
    | (go_at_call 47; (with_reducible refine kD.out.mono ?_); rintro e w' ⟨rfl, e7, rfl⟩)
    | (go_at_call 26; (with_reducible refine (check_ok _).mono ?_); rintro e w' ⟨rfl, e8, rfl⟩))
  replace O6 := O6.out
  have O9 := ((((((((O6.setCellAt 3 0 (nI 2) rfl (by simp)).setCellAt 3 1 (nI 1) rfl (by simp)).setCellAt 3 2 (nI 0) rfl (by simp)).setCellAt 3 3 nilS rfl (by simp)).setCellAt 3 4 nilS rfl (by simp)).setCellAt 3 5 nilS rfl (by simp)).plus e7).plus e8)
  simp only [List.set_cons_succ, List.set_cons_zero] at O9
  have hc9 := O9.cells 3 rfl
  have p9 := O9.p
  clear O9 O6 f0 f1 f2 f3 f4 m0 m1 m2 m3 m4 m5 kD fR r0 r1 r2 r3 r4 r5
  obtain ⟨wf, hwf⟩ : ∃ wf, ((((((((w6.setCell ⟨R0, 0, none⟩ (nI 2)).setCell ⟨R0, 1, none⟩ (nI 1)).setCell ⟨R0, 2, none⟩ (nI 0)).setCell ⟨R0, 3, none⟩ nilS).setCell ⟨R0, 4, none⟩ nilS).setCell ⟨R0, 5, none⟩ nilS).plus e7).plus e8) = wf := ⟨_, rfl⟩
  rw [hwf] at hc9 p9
  refine Eq.mpr (congrArg (bodyPost _ _ _ _ _) hwf) ?_
  obtain ⟨-, q9, -⟩ := hc9
  have r0 := q9 0 (by simp)
  have r1 := q9 1 (by simp)
  have r2 := q9 2 (by simp)
  have r3 := q9 3 (by simp)
  have r4 := q9 4 (by simp)
  have r5 := q9 5 (by simp)
  simp only [List.getElem?_cons_succ, List.getElem?_cons_zero] at r0 r1 r2 r3 r4 r5
  clear q9 hwf
  exact bodyPost_ret (v := .tuple #[msgV 2 1 0 nilS nilS nilS, nI 0]) (by simp [results, Tryz.results13, go_sem, *]) rfl ⟨rfl, p9⟩
abbrev bdW : BdR := ⟨⟨1, 0, 0⟩, 5, 3, -1, 0, 0, 9, 0, 0⟩
theorem bdW_I : BdI bdW := by
  unfold BdI IdI Octs.In64
  decide
theorem bdW_txt : Octs.txt (encB bdW) = ⟨#[1, 1, 0, 0, 1, 5, 1, 3, 128, 1, 9]⟩ := by decide +kernel
end Go.Proofs.YtpdlgflbcgemnaaGreatDoor
-- CodB
/- codec: numbers that are read as data; CodecPuts: walk. -/
set_option linter.unusedSimpArgs false
set_option linter.unusedVariables false
namespace Go.Proofs.YtpdlgflbcgemnaaGreatDoor
open Go.RowKit
abbrev idTy : Ty := .pair (.int .i64) (.pair (.int .i64) (.pair (.int .i64) .unit))
abbrev bdTy : Ty := .pair idTy (.pair (.int .i64) (.pair (.int .i64) (.pair (.int .i64) (.pair (.int .i64) (.pair (.int .i64) (.pair (.int .i64) (.pair (.int .i64) (.pair (.int .i64) .unit))))))))
abbrev cmTy : Ty := .pair (.int .i64) (.pair idTy (.pair bdTy (.pair (.int .i64) .unit)))
def toI (x : idTy.El) : IdR := ⟨x.1, x.2.1, x.2.2.1⟩
def toB (x : bdTy.El) : BdR := ⟨⟨x.1.1, x.1.2.1, x.1.2.2.1⟩, x.2.1, x.2.2.1, x.2.2.2.1, x.2.2.2.2.1, x.2.2.2.2.2.1, x.2.2.2.2.2.2.1, x.2.2.2.2.2.2.2.1, x.2.2.2.2.2.2.2.2.1⟩
def toC (x : cmTy.El) : CmdR := ⟨x.1, toI x.2.1, toB x.2.2.1, x.2.2.2.1⟩
theorem wf_i64 {n : Int} (h : (Lit.int .i64 n).wf = true) : Octs.In64 n := by
  simp [Lit.wf, IntKind.min, IntKind.max, IntKind.signed, IntKind.bits] at h
  unfold Octs.In64
  omega
theorem wf_toI {x : idTy.El} (h : idTy.Wf x) : IdI (toI x) := ⟨wf_i64 h.1, wf_i64 h.2.1, wf_i64 h.2.2.1⟩
theorem wf_toB {x : bdTy.El} (h : bdTy.Wf x) : BdI (toB x) := ⟨wf_toI h.1, wf_i64 h.2.1, wf_i64 h.2.2.1, wf_i64 h.2.2.2.1, wf_i64 h.2.2.2.2.1, wf_i64 h.2.2.2.2.2.1, wf_i64 h.2.2.2.2.2.2.1, wf_i64 h.2.2.2.2.2.2.2.1, wf_i64 h.2.2.2.2.2.2.2.2.1⟩
theorem wf_toC {x : cmTy.El} (h : cmTy.Wf x) : CmI (toC x) := ⟨wf_i64 h.1, wf_toI h.2.1, wf_toB h.2.2.1, wf_i64 h.2.2.2.1⟩
set_option maxHeartbeats 1000000
set_option maxRecDepth 100000
end Go.Proofs.YtpdlgflbcgemnaaGreatDoor
-- CodOp
/- codec: lists that are read as data, opened. -/
set_option linter.unusedSimpArgs false
set_option linter.unusedVariables false
set_option maxRecDepth 100000
namespace Go.Proofs.YtpdlgflbcgemnaaGreatDoor
open Go.RowKit
theorem openI {w : World} {xs : List idTy.El} {cs : List Value} (h : Holds w (.slice 24 idTy) xs cs) :
    ∃ (A : Option Addr) (c : Nat) (ds : List IdR), cs = [.slice A ds.length c] ∧ ds.length ≤ 9223372036854775807 ∧ RowsAt w A 3 ds.length (rowFI ds) ∧ ∀ d ∈ ds, IdI d := by
  obtain ⟨A, c, hc, hl, _, hmx, hwf, hr⟩ := h.rows rfl
  refine ⟨A, c, xs.map toI, by rw [hc, List.length_map], by rw [List.length_map]; unfold maxLen at hmx; omega, ?_, fun d hd => ?_⟩
  · rw [List.length_map]
    refine hr _ fun i j x hx hj => ?_
    have e : (xs.map toI).getD i idZ = toI x := by rw [List.getD_eq_getElem?_getD, List.getElem?_map, hx]; rfl
    unfold rowFI
    rw [e]
    have hn : (toI x).cs.length = 3 := rfl
    show (toI x).cs[j]? = _
    rw [List.getD_eq_getElem?_getD, List.getElem?_eq_getElem (by rw [hn]; exact hj)]
    rfl
  · obtain ⟨x, hx, rfl⟩ := List.mem_map.1 hd
    exact wf_toI (hwf x hx)
theorem openB {w : World} {xs : List bdTy.El} {cs : List Value} (h : Holds w (.slice 88 bdTy) xs cs) :
    ∃ (A : Option Addr) (c : Nat) (ds : List BdR), cs = [.slice A ds.length c] ∧ ds.length ≤ 9223372036854775807 ∧ RowsAt w A 11 ds.length (rowFB ds) ∧ ∀ d ∈ ds, BdI d := by
  obtain ⟨A, c, hc, hl, _, hmx, hwf, hr⟩ := h.rows rfl
  refine ⟨A, c, xs.map toB, by rw [hc, List.length_map], by rw [List.length_map]; unfold maxLen at hmx; omega, ?_, fun d hd => ?_⟩
  · rw [List.length_map]
    refine hr _ fun i j x hx hj => ?_
    have e : (xs.map toB).getD i bdZ = toB x := by rw [List.getD_eq_getElem?_getD, List.getElem?_map, hx]; rfl
    unfold rowFB
    rw [e]
    have hn : (toB x).cs.length = 11 := rfl
    show (toB x).cs[j]? = _
    rw [List.getD_eq_getElem?_getD, List.getElem?_eq_getElem (by rw [hn]; exact hj)]
    rfl
  · obtain ⟨x, hx, rfl⟩ := List.mem_map.1 hd
    exact wf_toB (hwf x hx)
theorem openC {w : World} {xs : List cmTy.El} {cs : List Value} (h : Holds w (.slice 128 cmTy) xs cs) :
    ∃ (A : Option Addr) (c : Nat) (ds : List CmdR), cs = [.slice A ds.length c] ∧ ds.length ≤ 9223372036854775807 ∧ RowsAt w A 16 ds.length (rowFC ds) ∧ ∀ d ∈ ds, CmI d := by
  obtain ⟨A, c, hc, hl, _, hmx, hwf, hr⟩ := h.rows rfl
  refine ⟨A, c, xs.map toC, by rw [hc, List.length_map], by rw [List.length_map]; unfold maxLen at hmx; omega, ?_, fun d hd => ?_⟩
  · rw [List.length_map]
    refine hr _ fun i j x hx hj => ?_
    have e : (xs.map toC).getD i cmZ = toC x := by rw [List.getD_eq_getElem?_getD, List.getElem?_map, hx]; rfl
    unfold rowFC
    rw [e]
    have hn : (toC x).cs.length = 16 := rfl
    show (toC x).cs[j]? = _
    rw [List.getD_eq_getElem?_getD, List.getElem?_eq_getElem (by rw [hn]; exact hj)]
    rfl
  · obtain ⟨x, hx, rfl⟩ := List.mem_map.1 hd
    exact wf_toC (hwf x hx)
end Go.Proofs.YtpdlgflbcgemnaaGreatDoor
