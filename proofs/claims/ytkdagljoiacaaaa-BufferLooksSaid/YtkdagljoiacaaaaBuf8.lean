/- buffer: deeds that are read as data, opened; nil stores and buffers; BufferNone, BufferDoes: walks. -/
import Derived.Test.YtkdagljoiacaaaaBuf7
import Derived.Test.YtkdagljoiacaaaaLift
set_option linter.unusedSimpArgs false
set_option linter.unusedVariables false
namespace Go.Proofs.Ytkdagljoiacaaaa
open Go.RowKit
abbrev idTy : Ty := .pair (.int .i64) (.pair (.int .i64) (.pair (.int .i64) .unit))
abbrev bdTy : Ty := .pair idTy (.pair (.int .i64) (.pair (.int .i64) (.pair (.int .i64) (.pair (.int .i64) (.pair (.int .i64) (.pair (.int .i64) (.pair (.int .i64) (.pair (.int .i64) .unit))))))))
abbrev ddTy : Ty := .pair (.int .i64) (.pair bdTy (.pair (.int .i64) .unit))
def toB (x : bdTy.El) : BdR := ⟨⟨x.1.1, x.1.2.1, x.1.2.2.1⟩, x.2.1, x.2.2.1, x.2.2.2.1, x.2.2.2.2.1, x.2.2.2.2.2.1, x.2.2.2.2.2.2.1, x.2.2.2.2.2.2.2.1, x.2.2.2.2.2.2.2.2.1⟩
def toDd (x : ddTy.El) : DdR := ⟨x.1, toB x.2.1, x.2.2.1⟩
theorem wf_i64 {n : Int} (h : (Lit.int .i64 n).wf = true) : -9223372036854775808 ≤ n ∧ n ≤ 9223372036854775807 := by
  simp [Lit.wf, IntKind.min, IntKind.max, IntKind.signed, IntKind.bits] at h
  exact h
theorem wf_id {x : bdTy.El} (h : bdTy.Wf x) : IdW (toB x).id := ⟨wf_i64 h.1.1, wf_i64 h.1.2.1, wf_i64 h.1.2.2.1⟩
theorem wf_dd {x : ddTy.El} (h : ddTy.Wf x) : DdW (toDd x) := ⟨wf_id h.2.1, wf_i64 h.2.1.2.1, wf_i64 h.2.2.1⟩
theorem open_dds {w : World} {xs : List ddTy.El} {cs : List Value} (h : Holds w (.slice 104 ddTy) xs cs) : ∃ (A : Option Addr) (cp : Nat) (ds : List DdR), cs = [.slice A ds.length cp] ∧ ds.length ≤ cp ∧ cp ≤ 9223372036854775807 ∧ RowsAt w A 13 ds.length (ddRow ds) ∧ ∀ d ∈ ds, DdW d := by
  obtain ⟨A, c, hc, hl, _, hmx, hwf, hr⟩ := h.rows rfl
  refine ⟨A, c, xs.map toDd, by rw [hc, List.length_map], by rw [List.length_map]; exact hl, by unfold maxLen at hmx; omega, ?_, fun d hd => ?_⟩
  · rw [List.length_map]
    refine hr _ fun i j x hx hj => ?_
    have e : (xs.map toDd).getD i dd0 = toDd x := by rw [List.getD_eq_getElem?_getD, List.getElem?_map, hx]; rfl
    unfold ddRow
    rw [e]
    have h13 : (toDd x).cs.length = 13 := rfl
    show (toDd x).cs[j]? = _
    rw [List.getD_eq_getElem?_getD, List.getElem?_eq_getElem (by rw [h13]; exact hj)]
    rfl
  · obtain ⟨x, hx, rfl⟩ := List.mem_map.1 hd
    exact wf_dd (hwf x hx)
set_option maxHeartbeats 400000
set_option maxRecDepth 100000
theorem get_nil (a : IdR) (w : World) : Calls Try.prog 23 #[.pointer none, a.v] w fun e w' => e = .returned (.tuple #[bd0.v, .bool false]) ∧ w.Plus w' := by
  go_enter Try.func23, Try.ntmps23
  go_wp2_with fail
  exact bodyPost_ret (v := .tuple #[bd0.v, .bool false]) (by simp [results, Try.results23, go_sem]) rfl ⟨rfl, by (repeat (first | exact Plus.refl _ | apply Plus.plus | apply Plus.alloc | apply Plus.drew))⟩
theorem do_nil (w : World) : Calls Try.prog 17 #[.pointer none, .agg #[nI 1, nI 0, nI 0, nI 0, nI 1, nI 0, nI 0, nI 0, nI 0, nI 0, nI 0, nI 0, nI 0]] w fun e w' => e = .returned (nI 1) ∧ w.Plus w' := by
  have kG := Lib.hid (fun w' => get_nil ⟨0, 0, 0⟩ w')
  go_enter Try.func17, Try.ntmps17
  go_wp2_with (go_at_call 23; (with_reducible refine (kG.out _).mono ?_); rintro e w' ⟨rfl, e1, rfl⟩)
  go_ret
  exact ⟨rfl, by (repeat (first | exact Plus.refl _ | apply Plus.plus | apply Plus.alloc | apply Plus.drew))⟩
theorem add_nil (v : Value) (w : World) : Calls Try.prog 13 #[.pointer none, v] w fun e w' => e = .returned (nI 1) ∧ w.Plus w' := by
  go_enter Try.func13, Try.ntmps13
  go_wp2_with fail
  go_ret
  exact ⟨rfl, by (repeat (first | exact Plus.refl _ | apply Plus.plus | apply Plus.alloc | apply Plus.drew))⟩
theorem blen_nil (w : World) : Calls Try.prog 19 #[.pointer none] w fun e w' => e = .returned (nI 0) ∧ w.Plus w' := by
  go_enter Try.func19, Try.ntmps19
  go_wp2_with fail
  go_ret
  exact ⟨rfl, by (repeat (first | exact Plus.refl _ | apply Plus.plus | apply Plus.alloc | apply Plus.drew))⟩
theorem blist_nil (w : World) : Calls Try.prog 20 #[.pointer none] w fun e w' => e = .returned (.slice none 0 0) ∧ w.Plus w' := by
  go_enter Try.func20, Try.ntmps20
  go_wp2_with fail
  go_ret
  exact ⟨rfl, by (repeat (first | exact Plus.refl _ | apply Plus.plus | apply Plus.alloc | apply Plus.drew))⟩
theorem flush_nil (v : Value) (w : World) : Calls Try.prog 14 #[.pointer none, v] w fun e w' => e = .returned (.slice none 0 0) ∧ w.Plus w' := by
  go_enter Try.func14, Try.ntmps14
  go_wp2_with fail
  go_ret
  exact ⟨rfl, by (repeat (first | exact Plus.refl _ | apply Plus.plus | apply Plus.alloc | apply Plus.drew))⟩
theorem bufferNone_any (W : World) (ds : List DdR) (A : Option Addr) (cp : Nat) (hc : ds.length ≤ cp) (hn : cp ≤ 9223372036854775807) (hr : RowsAt W A 13 ds.length (ddRow ds)) :
    Calls Try.prog 5 #[.slice A ds.length cp] W fun e w' => e = .returned (.bool true) ∧ W.Plus w' := by
  have k0 := Lib.hid (new_store (Own.start W))
  have kF := Lib.hid (fun w => few_any A ds.length cp w hc (by omega) (rows_hA hr))
  generalize min ds.length 60 = m at *
  generalize ds.length = n at *
  clear hr hc hn
  go_enter Try.func5, Try.ntmps5
  go_upto_region 3 with (go_at_call 11; (with_reducible refine k0.out.mono ?_); rintro e w1 ⟨S, rfl, O1⟩)
  have kL := Lib.hid (fun wz (p : w1.Plus wz) => len_store (Own.atP O1 wz p))
  rw [total0] at kL
  have hp := Lib.hid O1.p
  clear O1 k0
  go_wp2_with (first
    | (go_at_call 10; (with_reducible refine (kF.out _).mono ?_); rintro e w' ⟨rfl, e1, rfl⟩)
    | (go_at_call 13; (with_reducible refine (add_nil _ _).mono ?_); rintro e w' ⟨rfl, e2, rfl⟩)
    | (go_at_call 19; (with_reducible refine (blen_nil _).mono ?_); rintro e w' ⟨rfl, e3, rfl⟩)
    | (go_at_call 20; (with_reducible refine (blist_nil _).mono ?_); rintro e w' ⟨rfl, e4, rfl⟩)
    | (go_at_call 14; (with_reducible refine (flush_nil _ _).mono ?_); rintro e w' ⟨rfl, e5, rfl⟩)
    | (go_at_call 18; (with_reducible refine (kL.out _ (by (repeat (first | exact Plus.refl _ | apply Plus.plus | apply Plus.alloc | apply Plus.drew)))).mono ?_); rintro e w' ⟨rfl, e6, rfl⟩)
    | (go_at_call 9; (with_reducible refine (awake_any _).mono ?_); rintro e w' ⟨rfl, e7, rfl⟩))
  go_ret
  exact ⟨rfl, Plus.trans hp.out (by (repeat (first | exact Plus.refl _ | apply Plus.plus | apply Plus.alloc | apply Plus.drew)))⟩
/-- what deeds make out of nothing -/
def run13 (ds : List DdR) : Tabs := doAll (fun _ => []) ds
theorem run13_good (ds : List DdR) : GoodT (run13 ds) ∧ Cln (run13 ds) ∧ total (run13 ds) ≤ ds.length := by
  have := doAll_good good_none cln_none ds
  rw [total0, Nat.zero_add] at this
  exact this
theorem run13_snoc (ds : List DdR) (d : DdR) : run13 (ds ++ [d]) = (doT (run13 ds) d).1 := doAll_snoc _ _ _
theorem take60 (ds : List DdR) (m : Nat) (hm : m = min ds.length 60) : ds.take m = ds.take 60 := by
  by_cases h60 : 60 < ds.length
  · rw [hm, show min ds.length 60 = 60 by omega]
  · rw [List.take_of_length_le (by omega), List.take_of_length_le (by omega)]
theorem dd_here {W : World} {g o n : Nat} {ds : List DdR} (hr : RowsAt W (some ⟨g, o, none⟩) 13 n (ddRow ds)) (i : Nat) (d : DdR) (hdi : ds[i]? = some d) (hlt : i < n) : ∀ w', W.Plus w' → InW g w' ∧ Dd13 w' g (o + i * 13) d := fun w' p => by
  obtain ⟨g', o', he, h1, h2⟩ := row_dd (RowsAt.plus hr p) i d hdi hlt
  cases he
  exact ⟨h1, h2⟩
set_option maxHeartbeats 1000000 in
theorem bufferDoes_any (W : World) (ds : List DdR) (A : Option Addr) (cp : Nat) (hc : ds.length ≤ cp) (hn : cp ≤ 9223372036854775807) (hr : RowsAt W A 13 ds.length (ddRow ds)) (hid : ∀ d ∈ ds, DdW d) :
    Calls Try.prog 6 #[.slice A ds.length cp] W fun e w' => e = .returned (.bool true) ∧ W.Plus w' := by
  have hz := refZero
  have k0 := Lib.hid (new_store (Own.start W))
  have kb := Lib.hid (ref_box W)
  obtain ⟨cs0, hcs0⟩ : ∃ cs0, cs0 = (rcellsL (fun _ => (none, 0)) (fun _ => [])).toArray := ⟨_, rfl⟩
  rw [← hcs0] at hz kb
  clear hcs0
  have kF := Lib.hid (fun w => few_any A ds.length cp w hc (by omega) (rows_hA hr))
  obtain ⟨m, hm⟩ : ∃ m, m = min ds.length 60 := ⟨_, rfl⟩
  rw [← hm] at kF
  have hmb : m ≤ 60 ∧ m ≤ ds.length := by omega
  obtain ⟨hm60, hmd⟩ := hmb
  obtain ⟨nn, hnn⟩ : ∃ nn, nn = ds.length := ⟨_, rfl⟩
  rw [← hnn] at hr hmd kF hc ⊢
  replace hr := Lib.hid hr
  replace hid := Lib.hid hid
  replace hm := Lib.hid hm
  replace hnn := Lib.hid hnn
  go_enter Try.func6, Try.ntmps6
  go_upto_region 3 with (first
    | (go_at_call 11; (with_reducible refine k0.out.mono ?_); rintro e w1 ⟨S, rfl, O1⟩; have OB := Lib.hid (kb.out _ _ O1); clear O1)
    | (go_at_call 10; (with_reducible refine (kF.out _).mono ?_); rintro e w2 ⟨rfl, e2, rfl⟩))
  have O1 : Own W ((w1.alloc (.cells cs0 53)).plus e2) (storeA S (run13 []) :: refA w1.heap.size (run13 []) :: []) := (OB.out.plus e2).rot1
  generalize w1.heap.size = R at *
  generalize (w1.alloc (.cells cs0 53)).plus e2 = w3 at *
  clear OB k0 kb hz kF
  replace O1 := Lib.hid O1
  go_wp2_with fail
  go_loopw [5] (fun v wr => ∃ i : Nat, i ≤ m ∧ v = nI i ∧ Own W wr (storeA S (run13 (ds.take i)) :: refA R (run13 (ds.take i)) :: [])) (fun v _ => m - (intOf v).toNat)
  case atStart => exact ⟨0, by omega, rfl, O1.out⟩
  case round =>
    clear O1
    obtain ⟨i, hi, rfl, O2⟩ := hrel
    by_cases hlt : i < m
    · have hlti : (i : Int) < m := by omega
      obtain ⟨d, hdi⟩ : ∃ d, ds[i]? = some d := ⟨_, List.getElem?_eq_getElem (by rw [← hnn.out]; omega)⟩
      obtain ⟨g, o, rfl⟩ := rows_hA hr.out (by omega)
      have hDW := Lib.hid (dd_here hr.out i d hdi (by omega))
      obtain ⟨G, C, hT⟩ := run13_good (ds.take i)
      rw [List.length_take] at hT
      have hdd := hid.out d (List.mem_of_getElem? hdi)
      have ht2 := total_doT (run13 (ds.take i)) d
      have G2 := good_doT G d
      have k1 : RowKit.Hid (∀ l wz, Own W wz (storeA S (run13 (ds.take i)) :: l) → _) := Lib.hid (fun l wz O => do_O O G d hdd.1 (by omega))
      have k2 : RowKit.Hid (∀ l wz, Own W wz (refA R (run13 (ds.take i)) :: l) → _) := Lib.hid (fun l wz O => refDo_O O G d hdd (by omega))
      have e1 : run13 (ds.take (i + 1)) = (doT (run13 (ds.take i)) d).1 := by rw [take_snoc hdi, run13_snoc]
      rw [← e1] at ht2 G2 k1 k2
      obtain ⟨T2, hT2⟩ : ∃ T2, T2 = run13 (ds.take (i + 1)) := ⟨_, rfl⟩
      rw [← hT2] at ht2 G2 k1 k2
      generalize (doT (run13 (ds.take i)) d).2 = z at *
      have k3 := Lib.hid (fun wz (O : Own W wz (storeA S T2 :: refA R T2 :: [])) => alike_O O G2 (by omega))
      obtain ⟨hInD, a0, a1, a2, a3, a4, a5, a6, a7, a8, a9, a10, a11, a12⟩ := hDW.out wr O2.p
      have hzz : (z != z) = false := by simp
      clear e1 G G2 C hT ht2 hdd hdi
      replace hT2 := Lib.hid hT2
      replace O2 := Lib.hid O2
      go_upto_region 6 with fail
      go_region_held3 (fun w' => w'.cell? ⟨g, o + i * 13, none⟩ = some (nI d.kind) ∧ w'.cell? ⟨g, o + i * 13 + 1, none⟩ = some (nI d.b.id.s) ∧ w'.cell? ⟨g, o + i * 13 + 2, none⟩ = some (nI d.b.id.i) ∧ w'.cell? ⟨g, o + i * 13 + 3, none⟩ = some (nI d.b.id.g) ∧ w'.cell? ⟨g, o + i * 13 + 4, none⟩ = some (nI d.b.mask) ∧ w'.cell? ⟨g, o + i * 13 + 5, none⟩ = some (nI d.b.x) ∧ w'.cell? ⟨g, o + i * 13 + 6, none⟩ = some (nI d.b.y) ∧ w'.cell? ⟨g, o + i * 13 + 7, none⟩ = some (nI d.b.vx) ∧ w'.cell? ⟨g, o + i * 13 + 8, none⟩ = some (nI d.b.vy) ∧ w'.cell? ⟨g, o + i * 13 + 9, none⟩ = some (nI d.b.hp) ∧ w'.cell? ⟨g, o + i * 13 + 10, none⟩ = some (nI d.b.pw) ∧ w'.cell? ⟨g, o + i * 13 + 11, none⟩ = some (nI d.b.lf) ∧ w'.cell? ⟨g, o + i * 13 + 12, none⟩ = some (nI d.mask)) (simp [go_sem, *]) (first
        | (go_at_call 17; (with_reducible refine (k1.out _ _ O2.out.drew).mono ?_); rintro e w5 ⟨rfl, O5⟩; obtain ⟨hIn5, b0, b1, b2, b3, b4, b5, b6, b7, b8, b9, b10, b11, b12⟩ := hDW.out w5 O5.p; replace O5 := Lib.hid O5.rot1)
        | (go_at_call 21; (with_reducible refine (k2.out _ _ O5.out).mono ?_); rintro e w6 ⟨rfl, O6⟩; obtain ⟨hIn6, c0, c1, c2, c3, c4, c5, c6, c7, c8, c9, c10, c11, c12⟩ := hDW.out w6 O6.p; replace O6 := Lib.hid O6.rot1)
        | (go_at_call 22; (with_reducible refine (k3.out _ O6.out).mono ?_); rintro e w7 ⟨rfl, O7⟩; obtain ⟨hIn7, d0, d1, d2, d3, d4, d5, d6, d7, d8, d9, d10, d11, d12⟩ := hDW.out w7 O7.p; replace O7 := Lib.hid O7))
      all_goals
        go_wp2_with fail
        go_roundw
        case rel => exact ⟨i + 1, hlt, by go_num, by rw [← hT2.out]; exact O7.out⟩
        case measure => simp [intOf]; omega
    · obtain rfl : i = m := by omega
      have hp := Lib.hid O2.p
      clear O2
      go_wp2_with (first
        | (go_at_call 17; (with_reducible refine (do_nil _).mono ?_); rintro e w' ⟨rfl, e4, rfl⟩)
        | (go_at_call 9; (with_reducible refine (awake_any _).mono ?_); rintro e w' ⟨rfl, e5, rfl⟩))
      go_ret
      exact ⟨rfl, Plus.trans hp.out (by (repeat (first | exact Plus.refl _ | apply Plus.plus | apply Plus.alloc | apply Plus.drew)))⟩
end Go.Proofs.Ytkdagljoiacaaaa
