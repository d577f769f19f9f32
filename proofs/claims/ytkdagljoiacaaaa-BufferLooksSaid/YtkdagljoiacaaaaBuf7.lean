/- buffer: the law's few, alike, awake: walks. -/
import Derived.Test.YtkdagljoiacaaaaBuf6
import Derived.Test.YtkdagljoiacaaaaArO
set_option linter.unusedSimpArgs false
set_option linter.unusedVariables false
namespace Go.Proofs.Ytkdagljoiacaaaa
open Go.RowKit
theorem few_any (A : Option Addr) (n cp : Nat) (w : World) (hc : n ≤ cp) (hn : n ≤ 9223372036854775807) (hA : 0 < n → ∃ g o, A = some ⟨g, o, none⟩) :
    Calls Try.prog 10 #[.slice A n cp] w fun e w' => e = .returned (.slice A (min n 60) cp) ∧ w.Plus w' := by
  by_cases h60 : 60 < n
  · have h60i : (60 : Int) < n := by omega
    have hd : decide (60 < n) = true := decide_eq_true h60
    obtain ⟨g, o, rfl⟩ := hA (by omega)
    have hm : min n 60 = 60 := by omega
    have hc6 : 60 ≤ cp := by omega
    rw [hm]
    clear hm
    go_enter Try.func10, Try.ntmps10
    go_wp2_with fail
    go_ret
    exact ⟨rfl, by (repeat (first | exact Plus.refl _ | apply Plus.plus | apply Plus.alloc | apply Plus.drew))⟩
  · have h60i : ¬ (60 : Int) < n := by omega
    have hd : decide (60 < n) = false := decide_eq_false h60
    have hm : min n 60 = n := by omega
    rw [hm]
    clear hm
    go_enter Try.func10, Try.ntmps10
    go_wp2_with fail
    go_ret
    exact ⟨rfl, by (repeat (first | exact Plus.refl _ | apply Plus.plus | apply Plus.alloc | apply Plus.drew))⟩
theorem ref_box (W w : World) (l : List Asn) (h : Own W w l) : Own W (w.alloc (.cells (rcellsL (fun _ => (none, 0)) (fun _ => [])).toArray 53)) (refA w.heap.size (fun _ => []) :: l) := ref_shut (ref_new h)
theorem rows_hA {w : World} {A : Option Addr} {size n : Nat} {f : Nat → Nat → Value} (h : RowsAt w A size n f) : 0 < n → ∃ g o, A = some ⟨g, o, none⟩ := fun h0 => by
  obtain ⟨g, o, hA, _⟩ := h h0
  exact ⟨g, o, hA⟩
theorem sl_er {w : World} {A : Option Addr} {n c : Nat} {es : List Int} (h : Sl w 1 (.slice A n c) n (erCs es)) (i : Nat) (x : Int) (hx : es[i]? = some x) (hi : i < n) : ∃ g o, A = some ⟨g, o, none⟩ ∧ InW g w ∧ w.cell? ⟨g, o + i, none⟩ = some (nI x) := by
  obtain ⟨g, o, hA, hg, hc⟩ := h.cellsOf (by omega)
  refine ⟨g, o, hA, ⟨hg⟩, ?_⟩
  rw [hc i (by omega)]
  unfold erCs
  rw [List.getElem?_map, hx]
  rfl
set_option maxRecDepth 100000 in
set_option maxHeartbeats 400000 in
theorem lalike_true (w : World) (A B : Option Addr) (c d k : Nat) (es : List Int) (hx0 : Sl w 1 (.slice A k c) k (erCs es)) (hy0 : Sl w 1 (.slice B k d) k (erCs es)) (hk : k = es.length) (hlen : k ≤ 100000) :
    Calls Try.prog 26 #[.slice A k c, .slice B k d] w fun e w' => e = .returned (.bool true) ∧ w.Plus w' := by
  have hx := Lib.hid (Sl.atP hx0)
  have hy := Lib.hid (Sl.atP hy0)
  have hnk : ((k : Int) != (k : Int)) = false := by simp
  replace hk := Lib.hid hk
  clear hx0 hy0
  go_enter Try.func26, Try.ntmps26
  go_wp2_with fail
  go_loopw [5] (fun v wr => ∃ i : Nat, i ≤ k ∧ v = nI i ∧ w.Plus wr) (fun v _ => k - (intOf v).toNat)
  case atStart => exact ⟨0, by omega, rfl, Plus.refl w⟩
  case round =>
    obtain ⟨i, hi, rfl, hp⟩ := hrel
    by_cases hlt : i < k
    · have hlti : (i : Int) < k := by omega
      have hd1 : decide (i < k) = true := decide_eq_true hlt
      obtain ⟨x, hxi⟩ : ∃ x, es[i]? = some x := ⟨_, List.getElem?_eq_getElem (by rw [← hk.out]; exact hlt)⟩
      obtain ⟨g, o, rfl, hg, c1⟩ := sl_er (hx.out _ hp) i x hxi hlt
      obtain ⟨g', o', rfl, hg', c2⟩ := sl_er (hy.out _ hp) i x hxi hlt
      have hxx : (x != x) = false := by simp
      replace hxi := Lib.hid hxi
      replace hp := Lib.hid hp
      go_upto_region 6 with fail
      refine wp_region_grow (by kernel_rfl) (by kernel_rfl) ?_
      repeat (go_big_quiet_step (fail))
      refine wpQuiet_nil ?_
      intro ex
      go_wp2_with fail
      go_roundw
      case rel => exact ⟨i + 1, hlt, by go_num, Plus.trans hp.out (by (repeat (first | exact Plus.refl _ | apply Plus.plus | apply Plus.alloc | apply Plus.drew)))⟩
      case measure => simp [intOf]; omega
    · obtain rfl : i = k := by omega
      replace hp := Lib.hid hp
      go_wp2_with fail
      go_ret
      exact ⟨rfl, Plus.trans hp.out (by (repeat (first | exact Plus.refl _ | apply Plus.plus | apply Plus.alloc | apply Plus.drew)))⟩
abbrev awD : List DdR := [⟨1, ⟨⟨0, 0, 0⟩, 1, 0, 0, 0, 0, 0, 0, 0⟩, 0⟩, ⟨3, ⟨⟨0, 0, 0⟩, 4, 0, 0, 0, 0, 3, 0, 0⟩, 0⟩, ⟨2, ⟨⟨0, 1, 0⟩, 0, 0, 0, 0, 0, 0, 0, 0⟩, 0⟩]
abbrev awE : List DdR := [⟨4, ⟨⟨0, 0, 0⟩, 0, 0, 0, 0, 0, 0, 0, 0⟩, 1⟩]
abbrev awX : BdR := ⟨⟨0, 0, 0⟩, 5, 0, 0, 0, 0, 3, 0, 0⟩
def awT : Tabs := doAll (fun _ => []) awD
theorem aw_facts : errs (fun _ => []) awD = [0, 0, 6] ∧ getS awT ⟨0, 0, 0⟩ = awX ∧ (findT awT ⟨0, 0, 0⟩).isSome = true ∧ errs awT awE = [1] ∧ total awT = 1 := by decide +kernel
theorem aw_good : GoodT awT ∧ Cln awT := by
  obtain ⟨h1, h2, _⟩ := doAll_good good_none cln_none awD
  exact ⟨h1, h2⟩
theorem awD_id : ∀ d ∈ awD, IdW d.b.id := by
  intro d hd
  simp only [awD, List.mem_cons, List.not_mem_nil, or_false] at hd
  rcases hd with rfl | rfl | rfl <;> (unfold IdW; simp)
theorem awE_id : ∀ d ∈ awE, IdW d.b.id := by
  intro d hd
  simp only [awE, List.mem_cons, List.not_mem_nil, or_false] at hd
  rcases hd with rfl
  unfold IdW; simp
theorem src_awD (w : World) : Src Try.prog 13 22 (.slice (some ⟨w.heap.size, 0, none⟩) 3 3) 3 (ddsCs awD) (w.alloc (.cells #[nI 1, nI 0, nI 0, nI 0, nI 1, nI 0, nI 0, nI 0, nI 0, nI 0, nI 0, nI 0, nI 0, nI 3, nI 0, nI 0, nI 0, nI 4, nI 0, nI 0, nI 0, nI 0, nI 3, nI 0, nI 0, nI 0, nI 2, nI 0, nI 1, nI 0, nI 0, nI 0, nI 0, nI 0, nI 0, nI 0, nI 0, nI 0, nI 0] 45)) :=
  Src.ofCells underDds _ (ddsCs awD) rfl (fun j hj => by rw [show (#[nI 1, nI 0, nI 0, nI 0, nI 1, nI 0, nI 0, nI 0, nI 0, nI 0, nI 0, nI 0, nI 0, nI 3, nI 0, nI 0, nI 0, nI 4, nI 0, nI 0, nI 0, nI 0, nI 3, nI 0, nI 0, nI 0, nI 2, nI 0, nI 1, nI 0, nI 0, nI 0, nI 0, nI 0, nI 0, nI 0, nI 0, nI 0, nI 0] : Array Value) = (ddsCs awD).toArray from rfl, World.cell?_alloc_new]; simp) (ddsCs_one awD) 3
theorem src_awE (w : World) : Src Try.prog 13 22 (.slice (some ⟨w.heap.size, 0, none⟩) 1 1) 1 (ddsCs awE) (w.alloc (.cells #[nI 4, nI 0, nI 0, nI 0, nI 0, nI 0, nI 0, nI 0, nI 0, nI 0, nI 0, nI 0, nI 1] 45)) :=
  Src.ofCells underDds _ (ddsCs awE) rfl (fun j hj => by rw [show (#[nI 4, nI 0, nI 0, nI 0, nI 0, nI 0, nI 0, nI 0, nI 0, nI 0, nI 0, nI 0, nI 1] : Array Value) = (ddsCs awE).toArray from rfl, World.cell?_alloc_new]; simp) (ddsCs_one awE) 1
set_option maxRecDepth 100000 in
set_option maxHeartbeats 1000000 in
theorem awake_any (w : World) : Calls Try.prog 9 #[] w fun e w' => e = .returned (.bool true) ∧ w.Plus w' := by
  obtain ⟨f1, f2, f3, f4, f5⟩ := aw_facts
  obtain ⟨g1, g2⟩ := aw_good
  have k0 := Lib.hid (new_store (Own.start w))
  have kF : RowKit.Hid (∀ S B wz, Own w wz (storeA S (fun _ => []) :: bufA B awD :: []) → Calls Try.prog 14 #[chP B, chP S] wz fun e w' => ∃ A c, e = .returned (.slice A 3 c) ∧ Own w w' (slA 1 (.slice A 3 c) 3 (erCs [0, 0, 6]) :: storeA S awT :: bufA B [] :: [])) := Lib.hid (fun S B wz O => by
    have := flush_O O good_none cln_none awD_id (by rw [total0]; show 0 + 3 ≤ 80000; omega)
    rw [f1] at this
    exact this)
  have kF2 : RowKit.Hid (∀ S B (l : List Asn) wz, Own w wz (storeA S awT :: bufA B awE :: l) → Calls Try.prog 14 #[chP B, chP S] wz fun e w' => ∃ A c, e = .returned (.slice A 1 c) ∧ Own w w' (slA 1 (.slice A 1 c) 1 (erCs [1]) :: storeA S (doAll awT awE) :: bufA B [] :: l)) := Lib.hid (fun S B l wz O => by
    have := flush_O O g1 g2 awE_id (by rw [f5]; show 1 + 1 ≤ 80000; omega)
    rw [f4] at this
    exact this)
  have kG : RowKit.Hid (∀ S (l : List Asn) wz, Own w wz (storeA S awT :: l) → Calls Try.prog 23 #[chP S, .agg #[nI 0, nI 0, nI 0]] wz (fun e w' => e = .returned (.tuple #[.agg #[nI 0, nI 0, nI 0, nI 5, nI 0, nI 0, nI 0, nI 0, nI 3, nI 0, nI 0], .bool true]) ∧ wz.Plus w')) := Lib.hid (fun S l wz O => by
    have := get_store O g1 ⟨0, 0, 0⟩ (by unfold IdW; simp) (by rw [f5]; omega)
    rw [f2, f3] at this
    exact this)
  have kL : RowKit.Hid (∀ B (ds : List DdR) (l : List Asn) wz, Own w wz (bufA B ds :: l) → Calls Try.prog 19 #[chP B] wz (fun e w' => e = .returned (nI ds.length) ∧ wz.Plus w')) := Lib.hid (fun B ds l wz O => blen_O O)
  have kS : RowKit.Hid (∀ S (l : List Asn) wz, Own w wz (storeA S (fun _ => []) :: l) → Calls Try.prog 18 #[chP S] wz (fun e w' => e = .returned (nI 0) ∧ wz.Plus w')) := Lib.hid (fun S l wz O => by
    have := len_store O
    rw [total0] at this
    exact this)
  clear f1 f2 f3 f4 f5 g1 g2
  go_enter Try.func9, Try.ntmps9
  go_upto_region 2 with (first
    | (go_at_call 11; (with_reducible refine k0.out.mono ?_); rintro e w1 ⟨S, rfl, O1⟩; have kN := Lib.hid (bnew_O O1); clear O1)
    | (go_at_call 12; (with_reducible refine kN.out.mono ?_); rintro e w2 ⟨B, rfl, O2⟩))
  have kA := Lib.hid (badd_O (O2.alloc (.cells #[nI 1, nI 0, nI 0, nI 0, nI 1, nI 0, nI 0, nI 0, nI 0, nI 0, nI 0, nI 0, nI 0, nI 3, nI 0, nI 0, nI 0, nI 4, nI 0, nI 0, nI 0, nI 0, nI 3, nI 0, nI 0, nI 0, nI 2, nI 0, nI 1, nI 0, nI 0, nI 0, nI 0, nI 0, nI 0, nI 0, nI 0, nI 0, nI 0] 45)) (some ⟨w2.heap.size, 0, none⟩) 3 awD 3 rfl (src_awD w2) (by show 0 + 3 ≤ 100000; omega))
  replace O2 := Lib.hid O2
  go_upto_region 4 with (first
    | (go_at_call 13; (with_reducible refine kA.out.mono ?_); rintro e w3 ⟨rfl, O3⟩; replace O3 : Own w w3 (bufA B awD :: storeA S (fun _ => []) :: []) := O3; have k3 : RowKit.Hid (Calls Try.prog 19 #[chP B] w3 (fun e w' => e = .returned (nI 3) ∧ w3.Plus w')) := Lib.hid (kL.out B awD _ w3 O3); replace O3 := Lib.hid O3)
    | (go_at_call 19; (with_reducible refine k3.out.mono ?_); rintro e w' ⟨rfl, e4, rfl⟩)
    | (go_at_call 18; (with_reducible refine (kS.out S _ _ ((O3.out.rot1).plus e4)).mono ?_); rintro e w' ⟨rfl, e5, rfl⟩))
  have O4 := ((O3.out.rot1).plus e4).plus e5
  generalize (w3.plus e4).plus e5 = w4 at *
  clear O2 O3 k3 kA kN k0 kS
  replace O4 := Lib.hid O4
  go_upto_region 5 with (go_at_call 14; (with_reducible refine (kF.out _ _ _ O4.out).mono ?_); rintro e w5 ⟨A5, c5, rfl, O5⟩)
  clear O4 kF
  replace kG := Lib.hid (kG.out S _ w5 O5.rot1)
  replace O5 := Lib.hid O5
  go_upto_region 6 with (go_at_call 23; (with_reducible refine kG.out.mono ?_); rintro e w' ⟨rfl, e6, rfl⟩)
  have O6 : Own w ((w5.plus e6).alloc (.cells #[nI 0, nI 0, nI 0, nI 5, nI 0, nI 0, nI 0, nI 0, nI 3, nI 0, nI 0] 40)) (bufA B [] :: cellsA (w5.heap.size + e6.objs.size) [nI 0, nI 0, nI 0, nI 5, nI 0, nI 0, nI 0, nI 0, nI 3, nI 0, nI 0] :: slA 1 (.slice A5 3 c5) 3 (erCs [0, 0, 6]) :: storeA S awT :: []) := by
    have := ((O5.out.plus e6).newCells [nI 0, nI 0, nI 0, nI 5, nI 0, nI 0, nI 0, nI 0, nI 3, nI 0, nI 0] 40).pull 3 rfl
    rw [World.size_plus_eq] at this
    exact this
  generalize w5.heap.size + e6.objs.size = Y at *
  obtain ⟨w6, hw6⟩ : ∃ w6, (w5.plus e6).alloc (.cells #[nI 0, nI 0, nI 0, nI 5, nI 0, nI 0, nI 0, nI 0, nI 3, nI 0, nI 0] 40) = w6 := ⟨_, rfl⟩
  rw [hw6] at O6 ⊢
  clear hw6 O5 kG
  have kA := Lib.hid (badd_O (O6.alloc (.cells #[nI 4, nI 0, nI 0, nI 0, nI 0, nI 0, nI 0, nI 0, nI 0, nI 0, nI 0, nI 0, nI 1] 45)) (some ⟨w6.heap.size, 0, none⟩) 1 awE 1 rfl (src_awE w6) (by show 0 + 1 ≤ 100000; omega))
  replace O6 := Lib.hid O6
  go_upto_region 7 with (go_at_call 13; (with_reducible refine kA.out.mono ?_); rintro e w7 ⟨rfl, O7⟩; replace O7 : Own w w7 (bufA B awE :: cellsA Y [nI 0, nI 0, nI 0, nI 5, nI 0, nI 0, nI 0, nI 0, nI 3, nI 0, nI 0] :: slA 1 (.slice A5 3 c5) 3 (erCs [0, 0, 6]) :: storeA S awT :: []) := O7; replace O7 := Lib.hid O7)
  clear kA O6
  replace kF2 := Lib.hid (kF2.out S B _ w7 (O7.out.pull 3 rfl))
  go_upto_region 8 with (go_at_call 14; (with_reducible refine kF2.out.mono ?_); rintro e w8 ⟨A8, c8, rfl, O8⟩)
  replace O8 : Own w w8 (slA 1 (.slice A8 1 c8) 1 (erCs [1]) :: storeA S (doAll awT awE) :: bufA B [] :: cellsA Y [nI 0, nI 0, nI 0, nI 5, nI 0, nI 0, nI 0, nI 0, nI 3, nI 0, nI 0] :: slA 1 (.slice A5 3 c5) 3 (erCs [0, 0, 6]) :: []) := O8
  obtain ⟨g, o, rfl, hgw, y0⟩ := sl_er (O8.sl 0 rfl) 0 1 rfl (by omega)
  obtain ⟨g', o', rfl, hgw', x0⟩ := sl_er (O8.sl 4 rfl) 0 0 rfl (by omega)
  obtain ⟨_, _, he1, _, x1⟩ := sl_er (O8.sl 4 rfl) 1 0 rfl (by omega)
  obtain ⟨_, _, he2, _, x2⟩ := sl_er (O8.sl 4 rfl) 2 6 rfl (by omega)
  cases he1
  cases he2
  rw [Nat.add_zero] at x0 y0
  obtain ⟨hIn, q0, q1, q2, q3, q4, q5, q6, q7, q8, q9, q10⟩ := boxAt (b := awX) 3 O8 rfl
  have k9 : RowKit.Hid (Calls Try.prog 19 #[chP B] w8 (fun e w' => e = .returned (nI 0) ∧ w8.Plus w')) := Lib.hid (kL.out B [] _ w8 (O8.pull 2 rfl))
  have hp := Lib.hid O8.p
  have heq := eqBd awX awX
  rw [decide_eq_true rfl] at heq
  clear O8 kF2 O7 kL
  go_wp2_with (go_at_call 19; (with_reducible refine k9.out.mono ?_); rintro e w' ⟨rfl, e9, rfl⟩)
  go_ret
  exact ⟨rfl, Plus.plus hp.out e9⟩
end Go.Proofs.Ytkdagljoiacaaaa
