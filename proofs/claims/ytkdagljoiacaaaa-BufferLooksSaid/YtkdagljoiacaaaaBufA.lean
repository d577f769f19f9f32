/- BufferFlushes: walk. -/
import Derived.Test.YtkdagljoiacaaaaBuf8
import Derived.Test.YtkdagljoiacaaaaBufW
set_option linter.unusedSimpArgs false
set_option linter.unusedVariables false
namespace Go.Proofs.Ytkdagljoiacaaaa
open Go.RowKit
theorem ddsCs_setL (l : List DdR) (i : Nat) (b : DdR) (h : i < l.length) : setL (ddsCs l) (i * 13) b.cs = ddsCs (l.set i b) := by
  induction l generalizing i with
  | nil => simp at h
  | cons r t ih =>
    have e : ∀ (r : DdR) (t : List DdR), ddsCs (r :: t) = r.cs ++ ddsCs t := fun _ _ => rfl
    cases i with
    | zero => rw [List.set_cons_zero, e, e]; rfl
    | succ i =>
      rw [List.set_cons_succ, e, e, ← ih i (by simpa using h), ← setL_append]
      congr 1
      show (i + 1) * 13 = 13 + i * 13
      omega
theorem neqDd (x : DdR) (w : World) : (binOp .neq 45 x.v x.v).run Try.prog w = .ok (.bool false) w := by
  obtain ⟨q, ⟨⟨a, b, c⟩, d, e, f, g, h, i, j, k⟩, r⟩ := x
  simp [go_sem]
/-- a deed's cells may be written -/
structure Fz13 (w : World) (g p : Nat) : Prop where
  f0 : w.frozen? ⟨g, p, none⟩ = false
  f1 : w.frozen? ⟨g, p + 1, none⟩ = false
  f2 : w.frozen? ⟨g, p + 2, none⟩ = false
  f3 : w.frozen? ⟨g, p + 3, none⟩ = false
  f4 : w.frozen? ⟨g, p + 4, none⟩ = false
  f5 : w.frozen? ⟨g, p + 5, none⟩ = false
  f6 : w.frozen? ⟨g, p + 6, none⟩ = false
  f7 : w.frozen? ⟨g, p + 7, none⟩ = false
  f8 : w.frozen? ⟨g, p + 8, none⟩ = false
  f9 : w.frozen? ⟨g, p + 9, none⟩ = false
  f10 : w.frozen? ⟨g, p + 10, none⟩ = false
  f11 : w.frozen? ⟨g, p + 11, none⟩ = false
  f12 : w.frozen? ⟨g, p + 12, none⟩ = false
theorem sl_fz {w : World} {g o n c : Nat} {xs : List DdR} (h : Sl w 13 (.slice (some ⟨g, o, none⟩) n c) n (ddsCs xs)) (i : Nat) (hi : i < n) : Fz13 w g (o + i * 13) := by
  have key : ∀ j, j < n * 13 → w.frozen? ⟨g, o + j, none⟩ = false := by
    rcases h.val with ⟨_, h0⟩ | ⟨g', off, cap', he, hgl, h3, _, h5, h6⟩
    · omega
    · cases he
      exact fun j hj => (h6 j (by omega)).2
  have key2 : ∀ k, k < 13 → w.frozen? ⟨g, o + i * 13 + k, none⟩ = false := fun k hk => by
    rw [Nat.add_assoc]
    exact key (i * 13 + k) (by omega)
  exact ⟨key2 0 (by omega), key2 1 (by omega), key2 2 (by omega), key2 3 (by omega), key2 4 (by omega), key2 5 (by omega), key2 6 (by omega), key2 7 (by omega), key2 8 (by omega), key2 9 (by omega), key2 10 (by omega), key2 11 (by omega), key2 12 (by omega)⟩
theorem rows_take {w : World} {A : Option Addr} {n m : Nat} {ds : List DdR} (h : RowsAt w A 13 n (ddRow ds)) (hm : m ≤ n) : RowsAt w A 13 m (ddRow (ds.take m)) := fun h0 => by
  obtain ⟨g, o, hA, hl, hc⟩ := h (by omega)
  refine ⟨g, o, hA, hl, fun i j hi hj => ?_⟩
  rw [hc i j (by omega) hj]
  unfold ddRow
  have e : (ds.take m).getD i dd0 = ds.getD i dd0 := by rw [List.getD_eq_getElem?_getD, List.getD_eq_getElem?_getD, List.getElem?_take_of_lt hi]
  rw [e]
set_option maxRecDepth 100000 in
set_option maxHeartbeats 2000000 in
theorem bufferFlushes_any (W : World) (ds es0 : List DdR) (A E : Option Addr) (cp ce : Nat) (hc : ds.length ≤ cp) (hn : cp ≤ 9223372036854775807) (hr : RowsAt W A 13 ds.length (ddRow ds)) (hid : ∀ d ∈ ds, DdW d) (hc1 : es0.length ≤ ce) (hn1 : ce ≤ 9223372036854775807) (hr1 : RowsAt W E 13 es0.length (ddRow es0)) (hid1 : ∀ d ∈ es0, DdW d) :
    Calls Try.prog 8 #[.slice A ds.length cp, .slice E es0.length ce] W fun e w' => e = .returned (.bool true) ∧ W.Plus w' := by
  obtain ⟨i0, hi0, hz0, hz1, hz2⟩ := info_parts infoDd
  replace hi0 := Lib.hid hi0
  replace hz0 := Lib.hid hz0
  replace hz1 := Lib.hid hz1
  replace hz2 := Lib.hid hz2
  have hz := refZero
  have k0 := Lib.hid (new_store (Own.start W))
  have kb := Lib.hid (ref_box W)
  obtain ⟨cs0, hcs0⟩ : ∃ cs0, cs0 = (rcellsL (fun _ => (none, 0)) (fun _ => [])).toArray := ⟨_, rfl⟩
  rw [← hcs0] at hz kb
  clear hcs0
  have kF := Lib.hid (fun w => few_any A ds.length cp w hc (by omega) (rows_hA hr))
  have kE := Lib.hid (fun w => few_any E es0.length ce w hc1 (by omega) (rows_hA hr1))
  obtain ⟨m, hm⟩ : ∃ m, m = min ds.length 60 := ⟨_, rfl⟩
  obtain ⟨q, hq⟩ : ∃ q, q = min es0.length 60 := ⟨_, rfl⟩
  rw [← hm] at kF
  rw [← hq] at kE
  have hmb : m ≤ 60 ∧ m ≤ ds.length := by omega
  obtain ⟨hm60, hmd⟩ := hmb
  have hq60 : q ≤ 60 := by omega
  have hrE := rows_take hr1 (m := q) (by omega)
  have hqe : q = (es0.take q).length := by rw [List.length_take]; omega
  have hidE : ∀ d ∈ es0.take q, DdW d := fun d hd => hid1 d (List.mem_of_mem_take hd)
  obtain ⟨nn, hnn⟩ : ∃ nn, nn = ds.length := ⟨_, rfl⟩
  rw [← hnn] at hr hmd kF hc ⊢
  generalize es0.length = n1 at *
  clear hr1 hid1
  generalize es0.take q = es at *
  replace hr := Lib.hid hr
  replace hid := Lib.hid hid
  replace hm := Lib.hid hm
  replace hnn := Lib.hid hnn
  replace hrE := Lib.hid hrE
  replace hqe := Lib.hid hqe
  replace hidE := Lib.hid hidE
  clear hq
  go_enter Try.func8, Try.ntmps8
  go_upto_region 3 with (first
    | (go_at_call 11; (with_reducible refine k0.out.mono ?_); rintro e w1 ⟨S, rfl, O1⟩; have OB := Lib.hid (kb.out _ _ O1); clear O1)
    | (go_at_call 10; (with_reducible refine (kF.out _).mono ?_); clear kF; rintro e w2 ⟨rfl, e2, rfl⟩)
    | (go_at_call 10; (with_reducible refine (kE.out _).mono ?_); clear kE; rintro e w2 ⟨rfl, e3, rfl⟩))
  have O1 : Own W (((w1.alloc (.cells cs0 53)).plus e2).plus e3) (storeA S (run13 []) :: refA w1.heap.size (run13 []) :: []) := ((OB.out.plus e2).plus e3).rot1
  generalize w1.heap.size = R at *
  generalize ((w1.alloc (.cells cs0 53)).plus e2).plus e3 = w3 at *
  clear OB k0 kb hz
  replace O1 := Lib.hid O1
  go_upto_block 0 with fail
  go_cut [7] (fun v wz => v = nI m ∧ Own W wz (storeA S (run13 (ds.take m)) :: refA R (run13 (ds.take m)) :: []))
  case first =>
    go_wp2_with fail
    go_loopw [7] (fun v wr => ∃ i : Nat, i ≤ m ∧ v = nI i ∧ Own W wr (storeA S (run13 (ds.take i)) :: refA R (run13 (ds.take i)) :: [])) (fun v _ => m - (intOf v).toNat)
    case atStart => exact ⟨0, by omega, rfl, O1.out⟩
    case round =>
      clear O1
      obtain ⟨i, hi, rfl, O2⟩ := hrel
      by_cases hlt : i < m
      · have hlti : (i : Int) < m := by omega
        obtain ⟨d, hdi⟩ : ∃ d, ds[i]? = some d := ⟨_, List.getElem?_eq_getElem (by rw [← hnn.out]; omega)⟩
        obtain ⟨g, o, rfl⟩ := rows_hA hr.out (by omega)
        have hDW := Lib.hid (dd_here hr.out i d hdi (by omega))
        obtain ⟨G, C, hT⟩ := run13_good (ds.take i)
        rw [List.length_take] at hT
        have hdd := hid.out d (List.mem_of_getElem? hdi)
        have k1 : RowKit.Hid (∀ l wz, Own W wz (storeA S (run13 (ds.take i)) :: l) → _) := Lib.hid (fun l wz O => do_O O G d hdd.1 (by omega))
        have k2 : RowKit.Hid (∀ l wz, Own W wz (refA R (run13 (ds.take i)) :: l) → _) := Lib.hid (fun l wz O => refDo_O O G d hdd (by omega))
        have e1 : run13 (ds.take (i + 1)) = (doT (run13 (ds.take i)) d).1 := by rw [take_snoc hdi, run13_snoc]
        rw [← e1] at k1 k2
        obtain ⟨T2, hT2⟩ : ∃ T2, T2 = run13 (ds.take (i + 1)) := ⟨_, rfl⟩
        rw [← hT2] at k1 k2
        generalize (doT (run13 (ds.take i)) d).2 = z at *
        obtain ⟨hInD, a0, a1, a2, a3, a4, a5, a6, a7, a8, a9, a10, a11, a12⟩ := hDW.out wr O2.p
        clear e1 G C hT hdd hdi
        replace hT2 := Lib.hid hT2
        replace O2 := Lib.hid O2
        go_upto_region 7 with (go_at_call 17; (with_reducible refine (k1.out _ _ O2.out).mono ?_); rintro e w5 ⟨rfl, O5⟩)
        clear a0 a1 a2 a3 a4 a5 a6 a7 a8 a9 a10 a11 a12 hInD
        obtain ⟨hInD, a0, a1, a2, a3, a4, a5, a6, a7, a8, a9, a10, a11, a12⟩ := hDW.out w5 O5.p
        replace O5 := Lib.hid O5.rot1
        go_wp2_with (go_at_call 21; (with_reducible refine (k2.out _ _ O5.out).mono ?_); rintro e w6 ⟨rfl, O6⟩; replace O6 := Lib.hid O6.rot1)
        go_roundw
        case rel => exact ⟨i + 1, hlt, by go_num, by rw [← hT2.out]; exact O6.out⟩
        case measure => simp [intOf]; omega
      · obtain rfl : i = m := by omega
        replace O2 := Lib.hid O2
        go_wp2_with fail
        go_meet
        exact ⟨rfl, O2.out⟩
  clear O1
  obtain ⟨rfl, O2⟩ := hcut
  obtain ⟨G, CL, hT⟩ := run13_good (ds.take m)
  rw [List.length_take] at hT
  have hT6 : total (run13 (ds.take m)) ≤ 60 := by omega
  generalize run13 (ds.take m) = T at *
  clear hT hm hr hid hnn hc hn hmd
  have kA := Lib.hid (fun (l : List Asn) wz (O : Own W wz (storeA S T :: refA R T :: l)) => alike_O O G (by omega))
  have kN := Lib.hid (bnew_O O2)
  clear O2
  go_upto_region 9 with (go_at_call 12; (with_reducible refine kN.out.mono ?_); rintro e w4 ⟨B, rfl, O4⟩)
  have OS := Lib.hid (Own.emptySl O4 13 45)
  have hS := Lib.hid (src_ddr (RowsAt.plus hrE.out (Plus.alloc O4.p (.cells #[] 45))) hqe.out ce)
  have hS2 := Lib.hid (src_ddr (RowsAt.plus hrE.out (Plus.alloc O4.p (.cells #[] 45))) hqe.out ce)
  clear O4 kN
  go_upto_region 10 with (at_builtin; refine wpList_append_O rfl _ _ 22 22 rfl 45 i0 _ 13 104 underDds hi0.out hz0.out hz1.out hz2.out rfl rfl OS.out rfl hS.out (by unfold maxLen; omega) (by omega) ?_; intro C cc w5 O5)
  rw [List.nil_append, Nat.zero_add] at O5
  clear OS hS hS2
  have kB := badd_O (O5.pull 1 rfl) C cc es q hqe.out (src_dds (O5.sl 0 rfl) hqe.out) (by rw [← hqe.out]; show 0 + q ≤ 100000; omega)
  rw [List.nil_append] at kB
  replace kB := Lib.hid kB
  clear O5
  go_upto_region 12 with (first
    | (go_at_call 13; (with_reducible refine kB.out.mono ?_); rintro e w6 ⟨rfl, O6⟩; replace O6 := Lib.hid ((O6.pull 2 rfl).pull 3 rfl).rot1)
    | (go_at_call 22; (with_reducible refine (kA.out _ _ O6.out).mono ?_); rintro e w7 ⟨rfl, O7⟩; replace O7 := Lib.hid O7))
  clear kB kA O6 hc1 hn1
  go_upto_block 2 with fail
  go_cut [10] (fun v wz => v = nI q ∧ ∃ qs : List DdR, qs.length = q ∧ Own W wz (slA 13 (.slice C q cc) q (ddsCs qs) :: storeA S T :: refA R T :: bufA B es :: []))
  case first =>
    go_wp2_with fail
    go_loopw [10] (fun v wr => ∃ (i : Nat) (qs : List DdR), i ≤ q ∧ v = nI i ∧ qs.length = q ∧ Own W wr (slA 13 (.slice C q cc) q (ddsCs qs) :: storeA S T :: refA R T :: bufA B es :: [])) (fun v _ => q - (intOf v).toNat)
    case atStart => exact ⟨0, es, by omega, rfl, hqe.out.symm, O7.out.pull 3 rfl⟩
    case round =>
      clear O7
      obtain ⟨i, qs, hi, rfl, hql, O2⟩ := hrel
      by_cases hlt : i < q
      · have hlti : (i : Int) < q := by omega
        obtain ⟨d, hdi⟩ : ∃ d, qs[i]? = some d := ⟨_, List.getElem?_eq_getElem (by omega)⟩
        obtain ⟨g, o, hC, hgw, hX⟩ := sl_dd (O2.sl 0 rfl) i d hdi hlt
        subst hC
        obtain ⟨a0, a1, a2, a3, a4, a5, a6, a7, a8, a9, a10, a11, a12⟩ := hX
        obtain ⟨f0, f1, f2, f3, f4, f5, f6, f7, f8, f9, f10, f11, f12⟩ := sl_fz (O2.sl 0 rfl) i hlt
        have O4 := Own.setSlL (DdR.cs ⟨-1, bd0, 0⟩) O2 (i * 13) (by show i * 13 + 13 ≤ _; omega)
        rw [ddsCs_setL _ _ _ (by omega)] at O4
        have hql2 : (qs.set i ⟨-1, bd0, 0⟩).length = q := by rw [List.length_set]; exact hql
        replace hql := Lib.hid hql
        replace hql2 := Lib.hid hql2
        replace O4 := Lib.hid O4
        have hw8 : (((((((((((((wr.setCell ⟨g, o + i * 13, none⟩ (.int .i64 (-1))).setCell ⟨g, o + i * 13 + 1, none⟩ (.int .i64 0)).setCell ⟨g, o + i * 13 + 2, none⟩ (.int .i64 0)).setCell ⟨g, o + i * 13 + 3, none⟩ (.int .i64 0)).setCell ⟨g, o + i * 13 + 4, none⟩ (.int .i64 0)).setCell ⟨g, o + i * 13 + 5, none⟩ (.int .i64 0)).setCell ⟨g, o + i * 13 + 6, none⟩ (.int .i64 0)).setCell ⟨g, o + i * 13 + 7, none⟩ (.int .i64 0)).setCell ⟨g, o + i * 13 + 8, none⟩ (.int .i64 0)).setCell ⟨g, o + i * 13 + 9, none⟩ (.int .i64 0)).setCell ⟨g, o + i * 13 + 10, none⟩ (.int .i64 0)).setCell ⟨g, o + i * 13 + 11, none⟩ (.int .i64 0)).setCell ⟨g, o + i * 13 + 12, none⟩ (.int .i64 0)) = wr.setCells g (o + i * 13) (DdR.cs ⟨-1, bd0, 0⟩) := rfl
        replace hw8 := Lib.hid hw8
        clear O2 hdi
        go_wp2_with fail
        rw [hw8.out]
        go_roundw
        case rel => exact ⟨i + 1, _, hlt, by go_num, hql2.out, O4.out⟩
        case measure => simp [intOf]; omega
      · obtain rfl : i = q := by omega
        replace O2 := Lib.hid O2
        replace hql := Lib.hid hql
        go_wp2_with fail
        go_meet
        exact ⟨rfl, qs, hql.out, O2.out⟩
  clear O7
  obtain ⟨rfl, qs, hql, O2⟩ := hcut
  have O3 := O2.drop
  clear O2 hql
  have kLi := blist_O (O3.pull 2 rfl) (by rw [← hqe.out]; omega)
  rw [← hqe.out] at kLi
  replace kLi := Lib.hid kLi
  clear O3
  go_upto_region 17 with (go_at_call 20; (with_reducible refine kLi.out.mono ?_); rintro e w8 ⟨D, cd, rfl, O8⟩)
  have kLe := blen_O (O8.pull 1 rfl)
  rw [← hqe.out] at kLe
  replace kLe := Lib.hid kLe
  clear kLi
  have hqq : ((q : Int) != (q : Int)) = false := by simp
  replace O8 := Lib.hid O8
  go_upto_region 19 with (go_at_call 19; (with_reducible refine kLe.out.mono ?_); rintro e w' ⟨rfl, e8, rfl⟩)
  have O9 : Own W (w8.plus e8) (slA 13 (.slice D q cd) q (ddsCs es) :: bufA B es :: storeA S T :: refA R T :: []) := O8.out.plus e8
  generalize w8.plus e8 = w9 at *
  clear O8 kLe
  replace O9 := Lib.hid O9
  go_upto_block 4 with fail
  go_cut [12] (fun v wz => v = nI q ∧ Own W wz (bufA B es :: storeA S T :: refA R T :: []))
  case first =>
    go_wp2_with fail
    go_loopw [12] (fun v wr => ∃ (i : Nat) (qs : List DdR), i ≤ q ∧ v = nI i ∧ qs.length = q ∧ (∀ j, i ≤ j → qs[j]? = es[j]?) ∧ Own W wr (slA 13 (.slice D q cd) q (ddsCs qs) :: bufA B es :: storeA S T :: refA R T :: [])) (fun v _ => q - (intOf v).toNat)
    case atStart => exact ⟨0, es, by omega, rfl, hqe.out.symm, fun _ _ => rfl, O9.out⟩
    case round =>
      clear O9
      obtain ⟨i, qs, hi, rfl, hql, hsm, O2⟩ := hrel
      by_cases hlt : i < q
      · have hlti : (i : Int) < q := by omega
        obtain ⟨d, hdi⟩ : ∃ d, es[i]? = some d := ⟨_, List.getElem?_eq_getElem (by rw [← hqe.out]; omega)⟩
        obtain ⟨g, o, hC, hgw, hX⟩ := sl_dd (O2.sl 0 rfl) i d ((hsm i (Nat.le_refl i)).trans hdi) hlt
        subst hC
        obtain ⟨a0, a1, a2, a3, a4, a5, a6, a7, a8, a9, a10, a11, a12⟩ := hX
        obtain ⟨f0, f1, f2, f3, f4, f5, f6, f7, f8, f9, f10, f11, f12⟩ := sl_fz (O2.sl 0 rfl) i hlt
        obtain ⟨g2, o2, hC2, hgw2, hX2⟩ := row_dd (RowsAt.plus hrE.out O2.p) i d hdi hlt
        subst hC2
        obtain ⟨b0, b1, b2, b3, b4, b5, b6, b7, b8, b9, b10, b11, b12⟩ := hX2
        have hne := neqDd d
        have O4 := Own.setSlL (DdR.cs ⟨0, bd0, 0⟩) O2 (i * 13) (by show i * 13 + 13 ≤ _; omega)
        rw [ddsCs_setL _ _ _ (by omega)] at O4
        have hql2 : (qs.set i ⟨0, bd0, 0⟩).length = q := by rw [List.length_set]; exact hql
        have hsm2 : ∀ j, i + 1 ≤ j → (qs.set i ⟨0, bd0, 0⟩)[j]? = es[j]? := fun j hj => by
          rw [List.getElem?_set_ne (by omega)]
          exact hsm j (by omega)
        replace hql := Lib.hid hql
        replace hsm := Lib.hid hsm
        replace hql2 := Lib.hid hql2
        replace hsm2 := Lib.hid hsm2
        replace O4 := Lib.hid O4
        have hw8 : (((((((((((((wr.setCell ⟨g, o + i * 13, none⟩ (.int .i64 0)).setCell ⟨g, o + i * 13 + 1, none⟩ (.int .i64 0)).setCell ⟨g, o + i * 13 + 2, none⟩ (.int .i64 0)).setCell ⟨g, o + i * 13 + 3, none⟩ (.int .i64 0)).setCell ⟨g, o + i * 13 + 4, none⟩ (.int .i64 0)).setCell ⟨g, o + i * 13 + 5, none⟩ (.int .i64 0)).setCell ⟨g, o + i * 13 + 6, none⟩ (.int .i64 0)).setCell ⟨g, o + i * 13 + 7, none⟩ (.int .i64 0)).setCell ⟨g, o + i * 13 + 8, none⟩ (.int .i64 0)).setCell ⟨g, o + i * 13 + 9, none⟩ (.int .i64 0)).setCell ⟨g, o + i * 13 + 10, none⟩ (.int .i64 0)).setCell ⟨g, o + i * 13 + 11, none⟩ (.int .i64 0)).setCell ⟨g, o + i * 13 + 12, none⟩ (.int .i64 0)) = wr.setCells g (o + i * 13) (DdR.cs ⟨0, bd0, 0⟩) := rfl
        replace hw8 := Lib.hid hw8
        clear O2 hdi
        go_upto_region 22 with fail
        refine wp_region_grow (by kernel_rfl) (by kernel_rfl) ?_
        repeat (go_big_quiet_step (fail))
        refine wpQuiet_nil ?_
        intro ex
        go_wp2_with fail
        rw [hw8.out]
        go_roundw
        case rel => exact ⟨i + 1, _, hlt, by go_num, hql2.out, hsm2.out, O4.out.plus ex⟩
        case measure => simp [intOf]; omega
      · obtain rfl : i = q := by omega
        replace O2 := Lib.hid O2.drop
        replace hql := Lib.hid hql
        replace hsm := Lib.hid hsm
        go_wp2_with fail
        go_meet
        exact ⟨rfl, O2.out⟩
  clear O9
  obtain ⟨rfl, O2⟩ := hcut
  obtain ⟨G2, CL2, hT2⟩ := doAll_good G CL es
  rw [← hqe.out] at hT2
  have her : q = (errs T es).length := by rw [errs_length]; exact hqe.out
  have kFl := flush_O O2.rot1 G CL (fun d hd => (hidE.out d hd).1) (by rw [← hqe.out]; omega)
  have kR := fun (l : List Asn) wz (O : Own W wz (refA R T :: l)) => refFlush_O (c := ce) O G CL hrE.out hqe.out hidE.out (by rw [← hqe.out]; omega)
  rw [← hqe.out] at kFl
  generalize errs T es = er at *
  generalize doAll T es = T2 at *
  have ht2 : total T2 ≤ 120 := by omega
  have kA := Lib.hid (fun (l : List Asn) wz (O : Own W wz (storeA S T2 :: refA R T2 :: l)) => alike_O O G2 (by omega))
  have kF2 : RowKit.Hid (∀ (l : List Asn) wz, Own W wz (storeA S T2 :: bufA B [] :: l) → Calls Try.prog 14 #[chP B, chP S] wz fun e w' => ∃ A c, e = .returned (.slice A 0 c) ∧ Own W w' (slA 1 (.slice A 0 c) 0 (erCs (errs T2 [])) :: storeA S (doAll T2 []) :: bufA B [] :: l)) := Lib.hid (fun l wz O => flush_O O G2 CL2 (fun d hd => by cases hd) (by show total T2 + 0 ≤ 80000; omega))
  have kL0 : RowKit.Hid (∀ (l : List Asn) wz, Own W wz (bufA B [] :: l) → Calls Try.prog 19 #[chP B] wz fun e w' => e = .returned (nI 0) ∧ wz.Plus w') := Lib.hid (fun l wz O => blen_O O)
  have kI0 : RowKit.Hid (∀ (l : List Asn) wz, Own W wz (bufA B [] :: l) → Calls Try.prog 20 #[chP B] wz fun e w' => ∃ A c, e = .returned (.slice A 0 c) ∧ Own W w' (slA 13 (.slice A 0 c) 0 (ddsCs []) :: bufA B [] :: l)) := Lib.hid (fun l wz O => blist_O O (by show 0 ≤ 100000; omega))
  replace kFl := Lib.hid kFl
  replace kR := Lib.hid kR
  replace her := Lib.hid her
  clear O2 G CL hT2 hT6 hrE hidE hqe
  go_upto_region 26 with (go_at_call 14; (with_reducible refine kFl.out.mono ?_); rintro e w10 ⟨F, cf, rfl, O10⟩)
  replace O10 := Lib.hid (O10.pull 3 rfl)
  clear kFl
  go_wp2_with (first
    | (go_at_call 27; (with_reducible refine (kR.out _ _ O10.out).mono ?_); rintro e w11 ⟨A11, c11, rfl, O11⟩; have kAl := Lib.hid (lalike_true w11 F A11 cf c11 q er (O11.sl 2 rfl) (O11.sl 0 rfl) her.out (by omega)); replace O11 := Lib.hid ((O11.drop.pull 1 rfl).drop).rot1)
    | (go_at_call 26; (with_reducible refine kAl.out.mono ?_); rintro e w' ⟨rfl, e12, rfl⟩; have O12 := Lib.hid (O11.out.plus e12))
    | (go_at_call 22; (with_reducible refine (kA.out _ _ O12.out).mono ?_); rintro e w13 ⟨rfl, O13⟩; replace O13 := Lib.hid (O13.pull 2 rfl))
    | (go_at_call 19; (with_reducible refine (kL0.out _ _ O13.out).mono ?_); rintro e w' ⟨rfl, e14, rfl⟩; have O14 := Lib.hid (O13.out.plus e14))
    | (go_at_call 20; (with_reducible refine (kI0.out _ _ O14.out).mono ?_); rintro e w15 ⟨A15, c15, rfl, O15⟩; replace O15 := Lib.hid O15.drop.rot1)
    | (go_at_call 14; (with_reducible refine (kF2.out _ _ O15.out).mono ?_); rintro e w16 ⟨A16, c16, rfl, O16⟩; have hp := Lib.hid O16.p; clear O16)
    | (go_at_call 9; (with_reducible refine (awake_any _).mono ?_); rintro e w' ⟨rfl, e17, rfl⟩))
  go_ret
  exact ⟨rfl, Plus.trans hp.out (by (repeat (first | exact Plus.refl _ | apply Plus.plus | apply Plus.alloc | apply Plus.drew)))⟩
end Go.Proofs.Ytkdagljoiacaaaa
