/- BufferRefused: walk. -/
import Derived.Test.YtkdagljoiacaaaaBuf8
import Derived.Test.YtkdagljoiacaaaaBufW
set_option linter.unusedSimpArgs false
set_option linter.unusedVariables false
namespace Go.Proofs.Ytkdagljoiacaaaa
open Go.RowKit
set_option maxRecDepth 100000 in
set_option maxHeartbeats 1000000 in
theorem bufferRefused_any (W : World) (ds : List DdR) (A : Option Addr) (cp : Nat) (d : DdR) (hd : DdW d) (hc : ds.length ≤ cp) (hn : cp ≤ 9223372036854775807) (hr : RowsAt W A 13 ds.length (ddRow ds)) (hid : ∀ d ∈ ds, DdW d) :
    Calls Try.prog 7 #[.slice A ds.length cp, d.v] W fun e w' => e = .returned (.bool true) ∧ W.Plus w' := by
  have hz := refZero
  obtain ⟨k, b, mk⟩ := d
  have O0 : Own W (W.alloc (.cells #[nI k, nI b.id.s, nI b.id.i, nI b.id.g, nI b.mask, nI b.x, nI b.y, nI b.vx, nI b.vy, nI b.hp, nI b.pw, nI b.lf, nI mk] 45)) (cellsA W.heap.size [nI k, nI b.id.s, nI b.id.i, nI b.id.g, nI b.mask, nI b.x, nI b.y, nI b.vx, nI b.vy, nI b.hp, nI b.pw, nI b.lf, nI mk] :: []) := Own.newCells (Own.start W) [nI k, nI b.id.s, nI b.id.i, nI b.id.g, nI b.mask, nI b.x, nI b.y, nI b.vx, nI b.vy, nI b.hp, nI b.pw, nI b.lf, nI mk] 45
  have hW0 : SizeN (W.alloc (.cells #[nI k, nI b.id.s, nI b.id.i, nI b.id.g, nI b.mask, nI b.x, nI b.y, nI b.vx, nI b.vy, nI b.hp, nI b.pw, nI b.lf, nI mk] 45)) (W.heap.size + 1) := inferInstance
  generalize hX : W.heap.size = X at *
  generalize hwy : W.alloc (.cells #[nI k, nI b.id.s, nI b.id.i, nI b.id.g, nI b.mask, nI b.x, nI b.y, nI b.vx, nI b.vy, nI b.hp, nI b.pw, nI b.lf, nI mk] 45) = wy at *
  have k0 := Lib.hid (new_store O0)
  have kb := Lib.hid (ref_box W)
  obtain ⟨cs0, hcs0⟩ : ∃ cs0, cs0 = (rcellsL (fun _ => (none, 0)) (fun _ => [])).toArray := ⟨_, rfl⟩
  rw [← hcs0] at hz kb
  clear hcs0 O0
  have kF := Lib.hid (fun w => few_any A ds.length cp w hc (by omega) (rows_hA hr))
  obtain ⟨m, hm⟩ : ∃ m, m = min ds.length 60 := ⟨_, rfl⟩
  rw [← hm] at kF
  have hmb : m ≤ 60 ∧ m ≤ ds.length := by omega
  obtain ⟨hm60, hmd⟩ := hmb
  obtain ⟨nn, hnn⟩ : ∃ nn, nn = ds.length := ⟨_, rfl⟩
  rw [← hnn] at hr hmd kF hc ⊢
  replace hr := Lib.hid hr
  replace hid := Lib.hid hid
  replace hm := Lib.hid hm
  replace hnn := Lib.hid hnn
  replace hd := Lib.hid hd
  go_enter Try.func7, Try.ntmps7
  go_upto_region 3 with (first
    | (go_at_call 11; (with_reducible refine k0.out.mono ?_); rintro e w1 ⟨S, rfl, O1⟩; have OB := Lib.hid (kb.out _ _ O1); clear O1)
    | (go_at_call 10; (with_reducible refine (kF.out _).mono ?_); rintro e w2 ⟨rfl, e2, rfl⟩))
  have O1 : Own W ((w1.alloc (.cells cs0 53)).plus e2) (storeA S (run13 []) :: refA w1.heap.size (run13 []) :: cellsA X [nI k, nI b.id.s, nI b.id.i, nI b.id.g, nI b.mask, nI b.x, nI b.y, nI b.vx, nI b.vy, nI b.hp, nI b.pw, nI b.lf, nI mk] :: []) := (OB.out.plus e2).rot1
  generalize w1.heap.size = R at *
  generalize (w1.alloc (.cells cs0 53)).plus e2 = w3 at *
  clear OB k0 kb hz kF hW0 hwy hX
  replace O1 := Lib.hid O1
  go_upto_block 0 with fail
  go_cut [7] (fun v wz => v = nI m ∧ Own W wz (storeA S (run13 (ds.take m)) :: refA R (run13 (ds.take m)) :: cellsA X [nI k, nI b.id.s, nI b.id.i, nI b.id.g, nI b.mask, nI b.x, nI b.y, nI b.vx, nI b.vy, nI b.hp, nI b.pw, nI b.lf, nI mk] :: []))
  case first =>
    go_wp2_with fail
    go_loopw [7] (fun v wr => ∃ i : Nat, i ≤ m ∧ v = nI i ∧ Own W wr (storeA S (run13 (ds.take i)) :: refA R (run13 (ds.take i)) :: cellsA X [nI k, nI b.id.s, nI b.id.i, nI b.id.g, nI b.mask, nI b.x, nI b.y, nI b.vx, nI b.vy, nI b.hp, nI b.pw, nI b.lf, nI mk] :: [])) (fun v _ => m - (intOf v).toNat)
    case atStart => exact ⟨0, by omega, rfl, O1.out⟩
    case round =>
      clear O1
      obtain ⟨i, hi, rfl, O2⟩ := hrel
      by_cases hlt : i < m
      · have hlti : (i : Int) < m := by omega
        obtain ⟨d, hdi⟩ : ∃ d, ds[i]? = some d := ⟨_, List.getElem?_eq_getElem (by rw [← hnn.out]; omega)⟩
        obtain ⟨g, o, rfl⟩ := rows_hA hr.out (by omega)
        have hDW := Lib.hid (dd_here hr.out i d hdi (by omega))
        obtain ⟨G, C, hT⟩ := run13_good (ds.take i)
        rw [List.length_take] at hT
        have hdd := hid.out d (List.mem_of_getElem? hdi)
        have k1 : RowKit.Hid (∀ l wz, Own W wz (storeA S (run13 (ds.take i)) :: l) → _) := Lib.hid (fun l wz O => do_O O G d hdd.1 (by omega))
        have k2 : RowKit.Hid (∀ l wz, Own W wz (refA R (run13 (ds.take i)) :: l) → _) := Lib.hid (fun l wz O => refDo_O O G d hdd (by omega))
        have e1 : run13 (ds.take (i + 1)) = (doT (run13 (ds.take i)) d).1 := by rw [take_snoc hdi, run13_snoc]
        rw [← e1] at k1 k2
        obtain ⟨T2, hT2⟩ : ∃ T2, T2 = run13 (ds.take (i + 1)) := ⟨_, rfl⟩
        rw [← hT2] at k1 k2
        generalize (doT (run13 (ds.take i)) d).2 = z at *
        obtain ⟨hInD, a0, a1, a2, a3, a4, a5, a6, a7, a8, a9, a10, a11, a12⟩ := hDW.out wr O2.p
        clear e1 G C hT hdd hdi
        replace hT2 := Lib.hid hT2
        replace O2 := Lib.hid O2
        go_upto_region 7 with (go_at_call 17; (with_reducible refine (k1.out _ _ O2.out).mono ?_); rintro e w5 ⟨rfl, O5⟩)
        clear a0 a1 a2 a3 a4 a5 a6 a7 a8 a9 a10 a11 a12 hInD
        obtain ⟨hInD, a0, a1, a2, a3, a4, a5, a6, a7, a8, a9, a10, a11, a12⟩ := hDW.out w5 O5.p
        replace O5 := Lib.hid O5.rot1
        go_wp2_with (go_at_call 21; (with_reducible refine (k2.out _ _ O5.out).mono ?_); rintro e w6 ⟨rfl, O6⟩; replace O6 := Lib.hid O6.rot1)
        go_roundw
        case rel => exact ⟨i + 1, hlt, by go_num, by rw [← hT2.out]; exact O6.out⟩
        case measure => simp [intOf]; omega
      · obtain rfl : i = m := by omega
        replace O2 := Lib.hid O2
        go_wp2_with fail
        go_meet
        exact ⟨rfl, O2.out⟩
  clear O1
  obtain ⟨rfl, O2⟩ := hcut
  obtain ⟨G, C, hT⟩ := run13_good (ds.take m)
  rw [List.length_take] at hT
  have hT6 : total (run13 (ds.take m)) ≤ 60 := by omega
  generalize run13 (ds.take m) = T at *
  clear hT C hm hr hid hnn hc hn hmd
  have hbid : IdW b.id := hd.out.1
  obtain ⟨hInp, p0, p1, p2, p3, p4, p5, p6, p7, p8, p9, p10, p11, p12⟩ := ddAt (d := ⟨k, b, mk⟩) 2 O2 rfl
  dsimp only at p0 p1 p2 p3 p4 p5 p6 p7 p8 p9 p10 p11 p12
  obtain ⟨tt, htt⟩ : ∃ tt, tt = total T := ⟨_, rfl⟩
  have htt6 : tt ≤ 60 := by omega
  have kL := len_store O2
  rw [← htt] at kL
  have kG := fun wz (p : wc.Plus wz) => get_store (Own.atP O2 wz p) G b.id hbid (by omega)
  obtain ⟨ob, hob⟩ : ∃ ob, ob = getS T b.id := ⟨_, rfl⟩
  obtain ⟨th, hth⟩ : ∃ th, th = (findT T b.id).isSome := ⟨_, rfl⟩
  rw [← hob, ← hth] at kG
  have kA := Lib.hid (fun (l : List Asn) wz (O : Own W wz (storeA S T :: refA R T :: l)) => alike_O O G (by omega))
  have kD := Lib.hid (fun (l : List Asn) wz (O : Own W wz (storeA S T :: l)) => do_O O G ⟨k, b, mk⟩ hbid (by omega))
  have ht2 := total_doT T ⟨k, b, mk⟩
  have G2 := good_doT G ⟨k, b, mk⟩
  replace kL := Lib.hid kL
  replace kG := Lib.hid kG
  replace hob := Lib.hid hob
  replace hth := Lib.hid hth
  replace htt := Lib.hid htt
  replace O2 := Lib.hid O2
  go_upto_region 10 with (first
    | (go_at_call 18; (with_reducible refine kL.out.mono ?_); rintro e w' ⟨rfl, e1, rfl⟩)
    | (go_at_call 23; (with_reducible refine (kG.out _ (by (repeat (first | exact Plus.refl _ | apply Plus.plus | apply Plus.alloc | apply Plus.drew)))).mono ?_); rintro e w' ⟨rfl, e2, rfl⟩))
  have O3 : Own W (((wc.plus e1).plus e2).alloc (.cells #[nI ob.id.s, nI ob.id.i, nI ob.id.g, nI ob.mask, nI ob.x, nI ob.y, nI ob.vx, nI ob.vy, nI ob.hp, nI ob.pw, nI ob.lf] 40)) (storeA S T :: refA R T :: cellsA ((wc.plus e1).plus e2).heap.size [nI ob.id.s, nI ob.id.i, nI ob.id.g, nI ob.mask, nI ob.x, nI ob.y, nI ob.vx, nI ob.vy, nI ob.hp, nI ob.pw, nI ob.lf] :: cellsA X [nI k, nI b.id.s, nI b.id.i, nI b.id.g, nI b.mask, nI b.x, nI b.y, nI b.vx, nI b.vy, nI b.hp, nI b.pw, nI b.lf, nI mk] :: []) := ((((O2.out.plus e1).plus e2).newCells [nI ob.id.s, nI ob.id.i, nI ob.id.g, nI ob.mask, nI ob.x, nI ob.y, nI ob.vx, nI ob.vy, nI ob.hp, nI ob.pw, nI ob.lf] 40).pull 2 rfl).pull 2 rfl
  have hsz : ∃ Y, Y = ((wc.plus e1).plus e2).heap.size := ⟨_, rfl⟩
  obtain ⟨Y, hY⟩ := hsz
  rw [← hY] at O3
  rw [World.size_plus_eq, World.size_plus_eq] at hY
  obtain ⟨w3, hw3⟩ : ∃ w3, ((wc.plus e1).plus e2).alloc (.cells #[nI ob.id.s, nI ob.id.i, nI ob.id.g, nI ob.mask, nI ob.x, nI ob.y, nI ob.vx, nI ob.vy, nI ob.hp, nI ob.pw, nI ob.lf] 40) = w3 := ⟨_, rfl⟩
  rw [hw3] at O3 ⊢
  rw [← hY]
  clear hw3 hY O2 kL kG hInp p0 p1 p2 p3 p4 p5 p6 p7 p8 p9 p10 p11 p12
  obtain ⟨hInp, p0, p1, p2, p3, p4, p5, p6, p7, p8, p9, p10, p11, p12⟩ := ddAt (d := ⟨k, b, mk⟩) 3 O3 rfl
  dsimp only at p0 p1 p2 p3 p4 p5 p6 p7 p8 p9 p10 p11 p12
  obtain ⟨hInq, q0, q1, q2, q3, q4, q5, q6, q7, q8, q9, q10⟩ := boxAt (b := ob) 2 O3 rfl
  have kD2 := kD.out _ w3 O3
  obtain ⟨z, hz⟩ : ∃ z, z = (doT T ⟨k, b, mk⟩).2 := ⟨_, rfl⟩
  obtain ⟨T2, hT2⟩ : ∃ T2, T2 = (doT T ⟨k, b, mk⟩).1 := ⟨_, rfl⟩
  rw [← hz, ← hT2] at kD2
  rw [← hT2] at ht2 G2
  have ht26 : total T2 ≤ 61 := by omega
  clear ht2 kD
  replace kD2 := Lib.hid kD2
  replace hz := Lib.hid hz
  replace hT2 := Lib.hid hT2
  replace O3 := Lib.hid O3
  by_cases hz0 : z = 0
  · subst hz0
    go_upto_region 12 with (go_at_call 17; (with_reducible refine kD2.out.mono ?_); rintro e w4 ⟨rfl, O4⟩)
    clear hInp hInq kD2 O3 p0 p1 p2 p3 p4 p5 p6 p7 p8 p9 p10 p11 p12 q0 q1 q2 q3 q4 q5 q6 q7 q8 q9 q10
    obtain ⟨hInp, p0, p1, p2, p3, p4, p5, p6, p7, p8, p9, p10, p11, p12⟩ := ddAt (d := ⟨k, b, mk⟩) 3 O4 rfl
    dsimp only at p0 p1 p2 p3 p4 p5 p6 p7 p8 p9 p10 p11 p12
    have kG := get_store O4 G2 b.id hbid (by omega)
    obtain ⟨xb, hxb⟩ : ∃ xb, xb = getS T2 b.id := ⟨_, rfl⟩
    obtain ⟨is, his⟩ : ∃ is, is = (findT T2 b.id).isSome := ⟨_, rfl⟩
    rw [← hxb, ← his] at kG
    replace kG := Lib.hid kG
    replace hxb := Lib.hid hxb
    replace his := Lib.hid his
    replace O4 := Lib.hid O4
    go_upto_region 13 with (go_at_call 23; (with_reducible refine kG.out.mono ?_); rintro e w' ⟨rfl, e5, rfl⟩)
    have O5 : Own W ((w4.plus e5).alloc (.cells #[nI xb.id.s, nI xb.id.i, nI xb.id.g, nI xb.mask, nI xb.x, nI xb.y, nI xb.vx, nI xb.vy, nI xb.hp, nI xb.pw, nI xb.lf] 40)) (storeA S T2 :: refA R T :: cellsA Y [nI ob.id.s, nI ob.id.i, nI ob.id.g, nI ob.mask, nI ob.x, nI ob.y, nI ob.vx, nI ob.vy, nI ob.hp, nI ob.pw, nI ob.lf] :: cellsA X [nI k, nI b.id.s, nI b.id.i, nI b.id.g, nI b.mask, nI b.x, nI b.y, nI b.vx, nI b.vy, nI b.hp, nI b.pw, nI b.lf, nI mk] :: cellsA (w4.heap.size + e5.objs.size) [nI xb.id.s, nI xb.id.i, nI xb.id.g, nI xb.mask, nI xb.x, nI xb.y, nI xb.vx, nI xb.vy, nI xb.hp, nI xb.pw, nI xb.lf] :: []) := by
      have := ((O4.out.plus e5).newCells [nI xb.id.s, nI xb.id.i, nI xb.id.g, nI xb.mask, nI xb.x, nI xb.y, nI xb.vx, nI xb.vy, nI xb.hp, nI xb.pw, nI xb.lf] 40).snoc
      rw [World.size_plus_eq] at this
      exact this
    generalize w4.heap.size + e5.objs.size = V at *
    obtain ⟨w5, hw5⟩ : ∃ w5, (w4.plus e5).alloc (.cells #[nI xb.id.s, nI xb.id.i, nI xb.id.g, nI xb.mask, nI xb.x, nI xb.y, nI xb.vx, nI xb.vy, nI xb.hp, nI xb.pw, nI xb.lf] 40) = w5 := ⟨_, rfl⟩
    rw [hw5] at O5 ⊢
    clear hw5 O4 kG hInp p0 p1 p2 p3 p4 p5 p6 p7 p8 p9 p10 p11 p12
    obtain ⟨hInp, p0, p1, p2, p3, p4, p5, p6, p7, p8, p9, p10, p11, p12⟩ := ddAt (d := ⟨k, b, mk⟩) 3 O5 rfl
    dsimp only at p0 p1 p2 p3 p4 p5 p6 p7 p8 p9 p10 p11 p12
    obtain ⟨hInq, q0, q1, q2, q3, q4, q5, q6, q7, q8, q9, q10⟩ := boxAt (b := ob) 2 O5 rfl
    obtain ⟨hInr, r0, r1, r2, r3, r4, r5, r6, r7, r8, r9, r10⟩ := boxAt (b := xb) 4 O5 rfl
    have hp := Lib.hid O5.p
    have kL := fun wz (p : w5.Plus wz) => len_store (Own.atP O5 wz p)
    have hkind := doT_kind (T := T) (d := ⟨k, b, mk⟩) hz.out.symm
    dsimp only at hkind
    have hbb := eqBd b b
    rw [decide_eq_true rfl] at hbb
    clear kA O5
    rcases hkind with rfl | rfl | rfl | rfl
    · obtain ⟨f1, f2, f3, f4⟩ := done_put G hz.out.symm
      rw [← hT2.out] at f3 f2 f4
      have a1 : th = false := by rw [hth.out]; exact f1
      have a2 : is = true := by rw [his.out]; exact f2
      subst a1
      subst a2
      have a4 : ((total T2 : Nat) : Int) = (tt : Int) + 1 := by have := htt.out; omega
      rw [a4] at kL
      replace kL := Lib.hid kL
      have a3 : xb = b := by rw [hxb.out]; exact f3
      subst a3
      clear a4 f1 f2 f3 f4 hth his hT2 hz hob htt
      go_wp2_with (first | (go_at_call 18; (with_reducible refine (kL.out _ (by (repeat (first | exact Plus.refl _ | apply Plus.plus | apply Plus.alloc | apply Plus.drew)))).mono ?_); rintro e w' ⟨rfl, e6, rfl⟩) | (go_at_call 9; (with_reducible refine (awake_any _).mono ?_); rintro e w' ⟨rfl, e7, rfl⟩))
      go_ret
      exact ⟨rfl, Plus.trans hp.out (by (repeat (first | exact Plus.refl _ | apply Plus.plus | apply Plus.alloc | apply Plus.drew)))⟩
    · obtain ⟨f1, f2, f4⟩ := done_remove G hz.out.symm
      rw [← hT2.out] at f2 f4
      have a1 : th = true := by rw [hth.out]; exact f1
      have a2 : is = false := by rw [his.out]; exact f2
      subst a1
      subst a2
      have a4 : ((total T2 : Nat) : Int) = (tt : Int) - 1 := by have := htt.out; omega
      rw [a4] at kL
      replace kL := Lib.hid kL
      have htt0 : 0 < tt := by have := htt.out; omega
      clear a4 f1 f2 f4 hth his hT2 hz hob htt
      go_wp2_with (first | (go_at_call 18; (with_reducible refine (kL.out _ (by (repeat (first | exact Plus.refl _ | apply Plus.plus | apply Plus.alloc | apply Plus.drew)))).mono ?_); rintro e w' ⟨rfl, e6, rfl⟩) | (go_at_call 9; (with_reducible refine (awake_any _).mono ?_); rintro e w' ⟨rfl, e7, rfl⟩))
      go_ret
      exact ⟨rfl, Plus.trans hp.out (by (repeat (first | exact Plus.refl _ | apply Plus.plus | apply Plus.alloc | apply Plus.drew)))⟩
    · obtain ⟨f1, f2, f3, f4⟩ := done_set G hz.out.symm
      rw [← hT2.out] at f3 f2 f4
      have a1 : th = true := by rw [hth.out]; exact f1
      have a2 : is = true := by rw [his.out]; exact f2
      subst a1
      subst a2
      have a4 : ((total T2 : Nat) : Int) = (tt : Int) := by have := htt.out; omega
      rw [a4] at kL
      replace kL := Lib.hid kL
      obtain ⟨nb, hnb⟩ : ∃ nb, nb = withB ob b := ⟨_, rfl⟩
      have a3 : xb = nb := by rw [hxb.out, hnb, hob.out]; exact f3
      subst a3
      clear hxb hbb
      have hbb := eqBd xb xb
      rw [decide_eq_true rfl] at hbb
      have kW := fun w' => refWith_any ob b w' hd.out.2.1
      rw [← hnb] at kW
      replace kW := Lib.hid kW
      clear hnb
      clear a4 f1 f2 f3 f4 hth his hT2 hz hob htt
      go_upto_region 19 with fail
      refine wp_region_grow (by kernel_rfl) (by kernel_rfl) ?_
      repeat (go_big_quiet_step ((first | (go_at_call 24; exact Calls.plus_of (kW.out _)) | (go_at_call 18; exact Calls.plus_of (kL.out _ (by (repeat (first | exact Plus.refl _ | apply Plus.plus | apply Plus.alloc | apply Plus.drew))))) | (go_at_call 9; exact Calls.plus_of (awake_any _)))))
      refine wpQuiet_nil ?_
      intro ex
      go_wp2_with fail
      go_ret
      exact ⟨rfl, Plus.trans hp.out (by (repeat (first | exact Plus.refl _ | apply Plus.plus | apply Plus.alloc | apply Plus.drew)))⟩
    · obtain ⟨f1, f2, f3, f4⟩ := done_drop G hz.out.symm
      rw [← hT2.out] at f3 f2 f4
      have a1 : th = true := by rw [hth.out]; exact f1
      have a2 : is = true := by rw [his.out]; exact f2
      subst a1
      subst a2
      have a4 : ((total T2 : Nat) : Int) = (tt : Int) := by have := htt.out; omega
      rw [a4] at kL
      replace kL := Lib.hid kL
      obtain ⟨nb, hnb⟩ : ∃ nb, nb = withoutB ob mk := ⟨_, rfl⟩
      have a3 : xb = nb := by rw [hxb.out, hnb, hob.out]; exact f3
      subst a3
      clear hxb hbb
      have hbb := eqBd xb xb
      rw [decide_eq_true rfl] at hbb
      have hmask : 0 ≤ ob.mask ∧ ob.mask ≤ 31 := by rw [hob.out]; exact get_mask G f1
      have kW := fun w' => refWithout_any ob mk w' hmask hd.out.2.2
      rw [← hnb] at kW
      replace kW := Lib.hid kW
      clear hmask
      clear hnb
      clear a4 f1 f2 f3 f4 hth his hT2 hz hob htt
      go_upto_region 20 with fail
      refine wp_region_grow (by kernel_rfl) (by kernel_rfl) ?_
      repeat (go_big_quiet_step ((first | (go_at_call 25; exact Calls.plus_of (kW.out _)) | (go_at_call 18; exact Calls.plus_of (kL.out _ (by (repeat (first | exact Plus.refl _ | apply Plus.plus | apply Plus.alloc | apply Plus.drew))))) | (go_at_call 9; exact Calls.plus_of (awake_any _)))))
      refine wpQuiet_nil ?_
      intro ex
      go_wp2_with fail
      go_ret
      exact ⟨rfl, Plus.trans hp.out (by (repeat (first | exact Plus.refl _ | apply Plus.plus | apply Plus.alloc | apply Plus.drew)))⟩
  · have e := doT_else (T := T) (d := ⟨k, b, mk⟩) (by rw [← hz.out]; exact hz0)
    rw [← hT2.out] at e
    subst e
    have hzb : (z != 0) = true := by simpa using hz0
    replace hz0 := Lib.hid hz0
    go_wp2_with (first
      | (go_at_call 17; (with_reducible refine kD2.out.mono ?_); rintro e w4 ⟨rfl, O4⟩; replace kA := Lib.hid (kA.out _ w4 O4); clear O4)
      | (go_at_call 22; (with_reducible refine kA.out.mono ?_); rintro e w5 ⟨rfl, O5⟩; have hp := Lib.hid O5.p; clear O5)
      | (go_at_call 9; (with_reducible refine (awake_any _).mono ?_); rintro e w' ⟨rfl, e7, rfl⟩))
    go_ret
    exact ⟨rfl, Plus.trans hp.out (by (repeat (first | exact Plus.refl _ | apply Plus.plus | apply Plus.alloc | apply Plus.drew)))⟩
end Go.Proofs.Ytkdagljoiacaaaa
