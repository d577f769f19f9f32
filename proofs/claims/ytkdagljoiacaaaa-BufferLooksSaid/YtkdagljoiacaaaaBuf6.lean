/- buffer: List, Flush, the reference's Flush: walks. -/
import Derived.Test.YtkdagljoiacaaaaBuf4
import Derived.Test.YtkdagljoiacaaaaBuf5
import Derived.Test.YtkdagljoiacaaaaArJ
set_option linter.unusedSimpArgs false
set_option linter.unusedVariables false
namespace Go.Proofs.Ytkdagljoiacaaaa
open Go.RowKit
set_option maxRecDepth 100000 in
set_option maxHeartbeats 1000000 in
theorem dclone_O {W wx : World} {l : List Asn} (O : Own W wx l) (a : Addr) (n c : Nat) (ps : List DdR) (hn : n ≤ 100000) (hS : ∀ w', wx.Plus w' → Src Try.prog 13 22 (.slice (some a) n c) n (ddsCs ps) w') :
    Calls Try.prog 35 #[.slice (some a) n c] wx fun e w' => ∃ A c', e = .returned (.slice A n c') ∧ Own W w' (slA 13 (.slice A n c') n (ddsCs ps) :: l) := by
  obtain ⟨i0, hi0, hz0, hz1, hz2⟩ := info_parts infoDd
  replace hi0 := Lib.hid hi0
  replace hz0 := Lib.hid hz0
  replace hz1 := Lib.hid hz1
  replace hz2 := Lib.hid hz2
  have q := fun (w : World) => Lib.run_eql_slice_nil (P := Try.prog) w _ _ (some a) n c 0 0 underDds
  have O1 := Own.emptySl O 13 45
  have hS1 := Lib.hid (hS _ (Plus.alloc (Plus.refl wx) (.cells #[] 45)))
  replace O1 := Lib.hid O1
  replace hS := Lib.hid hS
  replace O := Lib.hid O
  go_enter Try.func35, Try.ntmps35
  go_upto_region 3 with fail
  go_wp2_with (at_builtin; refine wpList_append_O rfl _ _ 22 22 rfl 45 i0 _ 13 104 underDds hi0.out hz0.out hz1.out hz2.out rfl rfl O1.out rfl hS1.out (by unfold maxLen; omega) (by omega) ?_; intro A2 cap2 w6 O6)
  go_ret
  rw [List.nil_append, Nat.zero_add] at O6
  exact ⟨A2, cap2, rfl, O6⟩
theorem dclone_nil {W wx : World} {l : List Asn} (O : Own W wx l) :
    Calls Try.prog 35 #[.slice none 0 0] wx fun e w' => ∃ A c', e = .returned (.slice A 0 c') ∧ Own W w' (slA 13 (.slice A 0 c') 0 (ddsCs []) :: l) := by
  have q := fun (w : World) => Lib.run_eql_slice_nil (P := Try.prog) w _ _ none 0 0 0 0 underDds
  have O1 := Lib.hid (Own.nilSl O 13)
  replace O := Lib.hid O
  go_enter Try.func35, Try.ntmps35
  go_wp2_with fail
  go_ret
  exact ⟨none, 0, rfl, O1.out⟩
theorem blist_O {W wx : World} {B : Nat} {ds : List DdR} {l : List Asn} (h : Own W wx (bufA B ds :: l)) (hl : ds.length ≤ 100000) :
    Calls Try.prog 20 #[chP B] wx fun e w' => ∃ A c, e = .returned (.slice A ds.length c) ∧ Own W w' (slA 13 (.slice A ds.length c) ds.length (ddsCs ds) :: bufA B ds :: l) := by
  obtain ⟨A, c, O⟩ := buf_open h
  have hAtP := Own.atP O
  obtain ⟨lB, qB, _⟩ := O.cells 0 rfl
  have b0 := qB 0 (by simp)
  simp only [List.getElem?_cons_zero] at b0
  haveI : InW B wx := ⟨lB⟩
  have k : Calls Try.prog 35 #[.slice A ds.length c] wx fun e w' => ∃ A c, e = .returned (.slice A ds.length c) ∧ Own W w' (slA 13 (.slice A ds.length c) ds.length (ddsCs ds) :: bufA B ds :: l) := by
    rcases (O.sl 1 rfl).val with ⟨he, h0⟩ | ⟨g, off, cap, he, _, _, _, hc, _⟩
    · obtain rfl : ds = [] := List.eq_nil_of_length_eq_zero (by omega)
      cases he
      exact dclone_nil h
    · cases he
      exact dclone_O h ⟨g, off, none⟩ ds.length c ds hl (fun w' p => src_dds ((hAtP w' p).sl 1 rfl) rfl)
  obtain ⟨n, hn⟩ : ∃ n, n = ds.length := ⟨_, rfl⟩
  rw [← hn] at b0 k ⊢
  replace k := Lib.hid k
  clear hAtP qB lB O h hl hn
  go_enter Try.func20, Try.ntmps20
  go_wp2_with (go_at_call 35; (with_reducible refine k.out.mono ?_); rintro e w1 ⟨A1, c1, rfl, O1⟩)
  go_ret
  exact ⟨A1, c1, rfl, O1⟩
/-- errors in memory -/
abbrev erCs (es : List Int) : List Value := es.map fun x => nI x
theorem infoEr : (Try.prog.info? 29).map (fun i => (i.zero, i.size, i.bytes)) = some (some (nI 0), 1, 8) := by kernel_rfl
theorem underErs : Try.prog.underlying 31 = some (.slice 29) := by kernel_rfl
theorem src_er (w : World) (B : Nat) (x : Int) (h : w.cell? ⟨B, 0, none⟩ = some (nI x)) : Src Try.prog 1 31 (.slice (some ⟨B, 0, none⟩) 1 1) 1 [nI x] w := by
  refine Src.ofCells underErs _ _ rfl (fun j hj => ?_) (fun u hu => ?_) 1
  · obtain rfl : j = 0 := by simp at hj; omega
    exact h
  · simp only [List.mem_cons, List.not_mem_nil, or_false] at hu
    subst hu
    rfl
theorem src_erNew (w : World) (x : Int) : Src Try.prog 1 31 (.slice (some ⟨w.heap.size, 0, none⟩) 1 1) 1 [nI x] (w.alloc (.cells #[nI x] 29)) := src_er _ _ x (by rw [World.cell?_alloc_new]; simp)
theorem src_inNew (w : World) (x : Int) : Src Try.prog 1 62 (.slice (some ⟨w.heap.size, 0, none⟩) 1 1) 1 [nI x] (w.alloc (.cells #[nI x] 3)) := src_int _ _ x (by rw [World.cell?_alloc_new]; simp)
theorem take_snoc {α : Type} {l : List α} {i : Nat} {x : α} (h : l[i]? = some x) : l.take (i + 1) = l.take i ++ [x] := by
  obtain ⟨hi, rfl⟩ := List.getElem?_eq_some_iff.1 h
  exact List.take_succ_eq_append_getElem hi
set_option maxRecDepth 100000 in
set_option maxHeartbeats 1000000 in
theorem flush_O {W wx : World} {S B : Nat} {T : Tabs} {ds : List DdR} {l : List Asn} (h : Own W wx (storeA S T :: bufA B ds :: l)) (hg : GoodT T) (hc : Cln T) (hid : ∀ d ∈ ds, IdW d.b.id) (ht : total T + ds.length ≤ 80000) :
    Calls Try.prog 14 #[chP B, chP S] wx fun e w' => ∃ A c, e = .returned (.slice A ds.length c) ∧ Own W w' (slA 1 (.slice A ds.length c) ds.length (erCs (errs T ds)) :: storeA S (doAll T ds) :: bufA B [] :: l) := by
  obtain ⟨i0, hi0, hz0, hz1, hz2⟩ := info_parts infoEr
  replace hi0 := Lib.hid hi0
  replace hz0 := Lib.hid hz0
  replace hz1 := Lib.hid hz1
  replace hz2 := Lib.hid hz2
  obtain ⟨A, c, O⟩ := buf_open h.rot1
  obtain ⟨lB, qB, _⟩ := O.cells 0 rfl
  have b0 := qB 0 (by simp)
  simp only [List.getElem?_cons_zero] at b0
  haveI : InW B wx := ⟨lB⟩
  have hG := Lib.hid (fun i => doAll_good hg hc (ds.take i))
  obtain ⟨n, hn⟩ : ∃ n, n = ds.length := ⟨_, rfl⟩
  have O1 : Own W wx (slA 1 (.slice none 0 0) 0 (erCs (errs T (ds.take 0))) :: storeA S (doAll T (ds.take 0)) :: cellsA B [.slice A n c] :: slA 13 (.slice A n c) n (ddsCs ds) :: l) := by
    rw [hn]
    exact Own.nilSl (O.pull 2 rfl) 1
  rw [← hn] at b0 ht ⊢
  clear qB lB O h hg hc
  replace O1 := Lib.hid O1
  replace hid := Lib.hid hid
  replace hn := Lib.hid hn
  go_enter Try.func14, Try.ntmps14
  go_wp2_with fail
  go_loopw [5, 15] (fun o v wr => ∃ (i : Nat) (A1 : Option Addr) (c1 : Nat), i ≤ n ∧ v = nI i ∧ o = .slice A1 i c1 ∧ Own W wr (slA 1 (.slice A1 i c1) i (erCs (errs T (ds.take i))) :: storeA S (doAll T (ds.take i)) :: cellsA B [.slice A n c] :: slA 13 (.slice A n c) n (ddsCs ds) :: l)) (fun _ v _ => n - (intOf v).toNat)
  case atStart => exact ⟨0, none, 0, by omega, rfl, rfl, O1.out⟩
  case round =>
    clear O1 b0
    obtain ⟨i, A1, c1, hi, rfl, rfl, O2⟩ := hrel
    by_cases hlt : i < n
    · have hlti : (i : Int) < n := by omega
      have hd1 : decide (i < n) = true := decide_eq_true hlt
      obtain ⟨d, hdi⟩ : ∃ d, ds[i]? = some d := ⟨_, List.getElem?_eq_getElem (by rw [← hn.out]; exact hlt)⟩
      have hdid := hid.out d (List.mem_of_getElem? hdi)
      obtain ⟨hGi, hCi, hti⟩ := hG.out i
      rw [List.length_take] at hti
      have e1 := take_snoc hdi
      have e2 : errs T (ds.take (i + 1)) = errs T (ds.take i) ++ [(doT (doAll T (ds.take i)) d).2] := by rw [e1, errs_snoc]
      have e3 : doAll T (ds.take (i + 1)) = (doT (doAll T (ds.take i)) d).1 := by rw [e1, doAll_snoc]
      obtain ⟨g, o, rfl, hgw, hX⟩ := sl_dd (O2.sl 3 rfl) i d hdi hlt
      obtain ⟨a0, a1, a2, a3, a4, a5, a6, a7, a8, a9, a10, a11, a12⟩ := hX
      have OD := (O2.alloc (.cells #[nI d.kind, nI d.b.id.s, nI d.b.id.i, nI d.b.id.g, nI d.b.mask, nI d.b.x, nI d.b.y, nI d.b.vx, nI d.b.vy, nI d.b.hp, nI d.b.pw, nI d.b.lf, nI d.mask] 45)).pull 1 rfl
      have kD := do_O OD hGi d hdid (by omega)
      obtain ⟨z, hz⟩ : ∃ z, z = (doT (doAll T (ds.take i)) d).2 := ⟨_, rfl⟩
      obtain ⟨T2, hT2⟩ : ∃ z, z = (doT (doAll T (ds.take i)) d).1 := ⟨_, rfl⟩
      obtain ⟨es, hes⟩ : ∃ es, es = errs T (ds.take i) := ⟨_, rfl⟩
      rw [← hz, ← hT2] at kD
      rw [← hz, ← hes] at e2
      rw [← hT2] at e3
      replace e2 := Lib.hid e2
      replace e3 := Lib.hid e3
      replace kD := Lib.hid kD
      replace hes := Lib.hid hes
      clear e1 hdi hdid hGi hCi hti hz hT2 OD
      replace O2 := Lib.hid O2
      go_wp2_with (first
        | (go_at_call 17; (with_reducible refine kD.out.mono ?_); rintro e w5 ⟨rfl, O5⟩; have O6 := Lib.hid ((O5.alloc (.cells #[nI z] 29)).pull 1 rfl); have hS := Lib.hid (src_erNew w5 z); replace O5 := Lib.hid O5)
        | (at_builtin; refine wpList_append_O rfl _ _ 31 31 rfl 29 i0 _ 1 8 underErs hi0.out hz0.out hz1.out hz2.out rfl rfl O6.out rfl hS.out (by unfold maxLen; omega) (by omega) ?_; intro A3 c3 w7 O7))
      have O8 : Own W w7 (slA 1 (.slice A3 (i + 1) c3) (i + 1) (erCs (errs T (ds.take (i + 1)))) :: storeA S (doAll T (ds.take (i + 1))) :: cellsA B [.slice (some ⟨g, o, none⟩) n c] :: slA 13 (.slice (some ⟨g, o, none⟩) n c) n (ddsCs ds) :: l) := by
        rw [e2.out, e3.out]
        unfold erCs
        rw [List.map_append, hes.out]
        exact O7
      clear O5 O6 hS kD O7
      replace O8 := Lib.hid O8
      go_roundw
      case rel => exact ⟨i + 1, A3, c3, hlt, by go_num, rfl, O8.out⟩
      case measure => simp [intOf]; omega
    · obtain rfl : i = n := by omega
      have O3 := O2.pull 2 rfl
      obtain ⟨lB, qB, fB⟩ := O3.cells 0 rfl
      have b0 := qB 0 (by simp)
      have f0 := fB 0
      simp only [List.getElem?_cons_zero] at b0
      haveI : InW B wr := ⟨lB⟩
      have e : ds.take i = ds := List.take_of_length_le (by rw [← hn.out]; exact Nat.le_refl _)
      rw [e] at O3
      have O4 := Own.nilSl (O3.setCellAt 0 0 (.slice none 0 0) rfl (by simp)) 13
      have O5 : Own W (wr.setCell ⟨B, 0, none⟩ (.slice none 0 0)) (slA 1 (.slice A1 i c1) i (erCs (errs T ds)) :: storeA S (doAll T ds) :: bufA B [] :: l) := by
        have := O4.rot1
        have := buf_mk (ds := []) this
        have := ((this.pull 3 rfl).drop)
        exact (this.rot1.pull 2 rfl).rot1
      replace O5 := Lib.hid O5
      clear O3 O4 O2 qB fB e
      go_wp2_with fail
      go_ret
      exact ⟨A1, c1, rfl, O5.out⟩
theorem infoIn : (Try.prog.info? 3).map (fun i => (i.zero, i.size, i.bytes)) = some (some (nI 0), 1, 8) := by kernel_rfl
theorem underIns : Try.prog.underlying 62 = some (.slice 3) := by kernel_rfl
set_option maxRecDepth 100000 in
set_option maxHeartbeats 1000000 in
theorem refFlush_O {W wx : World} {R : Nat} {T : Tabs} {ds : List DdR} {l : List Asn} {A : Option Addr} {c n : Nat} (h : Own W wx (refA R T :: l)) (hg : GoodT T) (hc : Cln T) (hr : RowsAt W A 13 n (ddRow ds)) (hn : n = ds.length) (hid : ∀ d ∈ ds, DdW d) (ht : total T + ds.length ≤ 80000) :
    Calls Try.prog 27 #[chP R, .slice A n c] wx fun e w' => ∃ A c, e = .returned (.slice A n c) ∧ Own W w' (slA 1 (.slice A n c) n (erCs (errs T ds)) :: refA R (doAll T ds) :: l) := by
  obtain ⟨i0, hi0, hz0, hz1, hz2⟩ := info_parts infoIn
  replace hi0 := Lib.hid hi0
  replace hz0 := Lib.hid hz0
  replace hz1 := Lib.hid hz1
  replace hz2 := Lib.hid hz2
  have hG := Lib.hid (fun i => doAll_good hg hc (ds.take i))
  have O1 : Own W wx (slA 1 (.slice none 0 0) 0 (erCs (errs T (ds.take 0))) :: refA R (doAll T (ds.take 0)) :: l) := Own.nilSl h 1
  rw [← hn] at ht
  clear h hg hc
  replace O1 := Lib.hid O1
  replace hid := Lib.hid hid
  replace hn := Lib.hid hn
  replace hr := Lib.hid hr
  go_enter Try.func27, Try.ntmps27
  go_wp2_with fail
  go_loopw [5, 6] (fun o v wr => ∃ (i : Nat) (A1 : Option Addr) (c1 : Nat), i ≤ n ∧ v = nI i ∧ o = .slice A1 i c1 ∧ Own W wr (slA 1 (.slice A1 i c1) i (erCs (errs T (ds.take i))) :: refA R (doAll T (ds.take i)) :: l)) (fun _ v _ => n - (intOf v).toNat)
  case atStart => exact ⟨0, none, 0, by omega, rfl, rfl, O1.out⟩
  case round =>
    clear O1
    obtain ⟨i, A1, c1, hi, rfl, rfl, O2⟩ := hrel
    by_cases hlt : i < n
    · have hlti : (i : Int) < n := by omega
      have hd1 : decide (i < n) = true := decide_eq_true hlt
      obtain ⟨d, hdi⟩ : ∃ d, ds[i]? = some d := ⟨_, List.getElem?_eq_getElem (by rw [← hn.out]; exact hlt)⟩
      have hdid := hid.out d (List.mem_of_getElem? hdi)
      obtain ⟨hGi, hCi, hti⟩ := hG.out i
      rw [List.length_take] at hti
      have e1 := take_snoc hdi
      have e2 : errs T (ds.take (i + 1)) = errs T (ds.take i) ++ [(doT (doAll T (ds.take i)) d).2] := by rw [e1, errs_snoc]
      have e3 : doAll T (ds.take (i + 1)) = (doT (doAll T (ds.take i)) d).1 := by rw [e1, doAll_snoc]
      obtain ⟨g, o, hA, hgw, hX⟩ := row_dd (RowsAt.plus hr.out O2.p) i d hdi hlt
      subst hA
      obtain ⟨a0, a1, a2, a3, a4, a5, a6, a7, a8, a9, a10, a11, a12⟩ := hX
      have kD := refDo_O (O2.pull 1 rfl) hGi d hdid (by omega)
      obtain ⟨z, hz⟩ : ∃ z, z = (doT (doAll T (ds.take i)) d).2 := ⟨_, rfl⟩
      obtain ⟨T2, hT2⟩ : ∃ z, z = (doT (doAll T (ds.take i)) d).1 := ⟨_, rfl⟩
      obtain ⟨es, hes⟩ : ∃ es, es = errs T (ds.take i) := ⟨_, rfl⟩
      rw [← hz, ← hT2] at kD
      rw [← hz, ← hes] at e2
      rw [← hT2] at e3
      replace e2 := Lib.hid e2
      replace e3 := Lib.hid e3
      replace kD := Lib.hid kD
      replace hes := Lib.hid hes
      clear e1 hdi hdid hGi hCi hti hz hT2
      replace O2 := Lib.hid O2
      go_wp2_with (first
        | (go_at_call 21; (with_reducible refine kD.out.mono ?_); rintro e w5 ⟨rfl, O5⟩; have O6 := Lib.hid ((O5.alloc (.cells #[nI z] 3)).pull 1 rfl); have hS := Lib.hid (src_inNew w5 z); replace O5 := Lib.hid O5)
        | (at_builtin; refine wpList_append_O rfl _ _ 62 62 rfl 3 i0 _ 1 8 underIns hi0.out hz0.out hz1.out hz2.out rfl rfl O6.out rfl hS.out (by unfold maxLen; omega) (by omega) ?_; intro A3 c3 w7 O7))
      have O8 : Own W w7 (slA 1 (.slice A3 (i + 1) c3) (i + 1) (erCs (errs T (ds.take (i + 1)))) :: refA R (doAll T (ds.take (i + 1))) :: l) := by
        rw [e2.out, e3.out]
        unfold erCs
        rw [List.map_append, hes.out]
        exact O7
      clear O5 O6 hS kD O7
      replace O8 := Lib.hid O8
      go_roundw
      case rel => exact ⟨i + 1, A3, c3, hlt, by go_num, rfl, O8.out⟩
      case measure => simp [intOf]; omega
    · obtain rfl : i = n := by omega
      have e : ds.take i = ds := List.take_of_length_le (by rw [← hn.out]; exact Nat.le_refl _)
      rw [e] at O2
      replace O2 := Lib.hid O2
      clear e
      go_wp2_with fail
      go_ret
      exact ⟨A1, c1, rfl, O2.out⟩
end Go.Proofs.Ytkdagljoiacaaaa
