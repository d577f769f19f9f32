/- BufferLooks: walk. -/
import Derived.Test.YtkdagljoiacaaaaBufB
import Derived.Test.YtkdagljoiacaaaaBufX
set_option linter.unusedSimpArgs false
set_option linter.unusedVariables false
namespace Go.Proofs.Ytkdagljoiacaaaa
open Go.RowKit Go.Shelf
theorem src_one (W w : World) (l : List Asn) (d : DdR) : Src Try.prog 13 22 (.slice (some ⟨w.heap.size, 0, none⟩) 1 1) 1 (ddsCs [d]) (w.alloc (.cells d.cs.toArray 45)) := by
  have := src_ddNew w d 45
  have e : ddsCs [d] = d.cs := by unfold ddsCs; simp
  rw [e]
  exact this
theorem deedsOf_length (kind mask : Int) (es : List BdR) : (deedsOf kind mask es).length = es.length := by unfold deedsOf; rw [List.length_map]
theorem deedsOf_snoc (kind mask : Int) (es : List BdR) (x : BdR) : deedsOf kind mask (es ++ [x]) = deedsOf kind mask es ++ [⟨kind, x, mask⟩] := by unfold deedsOf; rw [List.map_append]; rfl
theorem and_one_zero (m : Int) : (bits .and .i64 m 1 == 0) = !bitB m 1 := by
  have h := and_two m 1 0 rfl (by omega)
  have h2 := and_bitZ m (p := 1) (by simp)
  rw [h] at h2 ⊢
  by_cases hb : (m % 18446744073709551616).toNat / 2 ^ 0 % 2 = 1
  · rw [if_pos hb] at h2 ⊢; rw [← h2]; rfl
  · rw [if_neg hb] at h2 ⊢; rw [← h2]; rfl
attribute [local go_sem] Oper.semAt_some
set_option maxRecDepth 100000 in
set_option maxHeartbeats 1000000 in
theorem bufferLooks_any (W : World) (ds : List DdR) (A : Option Addr) (cp : Nat) (kind mask : Int) (hkd : (Lit.int .i64 kind).wf = true) (hmk : (Lit.int .i64 mask).wf = true) (hc : ds.length ≤ cp) (hn : cp ≤ 9223372036854775807) (hr : RowsAt W A 13 ds.length (ddRow ds)) (hid : ∀ d ∈ ds, DdW d) :
    Calls Try.prog 4 #[.slice A ds.length cp, nI kind, nI mask] W fun e w' => e = .returned (.bool true) ∧ W.Plus w' := by
  clear hkd hmk
  have kF := Lib.hid (fun w => few_any A ds.length cp w hc (by omega) (rows_hA hr))
  obtain ⟨m, hm⟩ : ∃ m, m = min ds.length 60 := ⟨_, rfl⟩
  rw [← hm] at kF
  have hmb : m ≤ 60 ∧ m ≤ ds.length := by omega
  obtain ⟨hm60, hmd⟩ := hmb
  obtain ⟨nn, hnn⟩ : ∃ nn, nn = ds.length := ⟨_, rfl⟩
  rw [← hnn] at hr hmd kF hc ⊢
  replace hr := Lib.hid hr
  replace hid := Lib.hid hid
  replace hm := Lib.hid hm
  replace hnn := Lib.hid hnn
  have O0 : Own W ((W.alloc (.cells #[nI kind] 3)).alloc (.cells #[nI mask] 3)) (cellsA (W.heap.size + 1) [nI mask] :: cellsA W.heap.size [nI kind] :: []) := by
    have := ((Own.start W).newCells [nI kind] 3).newCells [nI mask] 3
    rw [World.size_alloc] at this
    exact this
  refine (callsIn_wide (n := 20)).1 ?_
  refine callsIn_of_wp_marks Try.func4 rfl trivial ?_ rfl
  simp only [Try.ntmps4, List.size_toArray, List.length_cons, List.length_nil, Nat.reduceAdd, Nat.reduceSub, Array.replicate_succ, Array.replicate_zero, List.push_toArray, List.append_toArray, List.nil_append, List.cons_append]
  refine wpIn_wide.2 ?_
  go_upto_region 1 with fail
  generalize W.heap.size = Kb at *
  obtain ⟨Mb, hMb⟩ : ∃ n, n = Kb + 1 := ⟨_, rfl⟩
  rw [← hMb] at O0 ⊢
  clear hMb
  obtain ⟨w0, hw0⟩ : ∃ w0, (W.alloc (.cells #[nI kind] 3)).alloc (.cells #[nI mask] 3) = w0 := ⟨_, rfl⟩
  rw [hw0] at O0 ⊢
  clear hw0
  have kN := Lib.hid (fun wz (p : w0.Plus wz) => new_store (Own.atP O0 wz p))
  clear O0
  go_upto_region 4 with (first
    | (go_at_call 9; (with_reducible refine (awake_any _).mono ?_); rintro e w' ⟨rfl, e1, rfl⟩)
    | (go_at_call 11; (with_reducible refine (kN.out _ (by (repeat (first | exact Plus.refl _ | apply Plus.plus | apply Plus.alloc | apply Plus.drew)))).mono ?_); clear kN; rintro e w1 ⟨S, rfl, O1⟩))
  replace O1 := Lib.hid O1
  go_upto_region 5 with (go_at_call 10; (with_reducible refine (kF.out _).mono ?_); clear kF; rintro e w2 ⟨rfl, e2, rfl⟩)
  have O2 : Own W (w1.plus e2) (storeA S (run13 []) :: cellsA Mb [nI mask] :: cellsA Kb [nI kind] :: []) := O1.out.plus e2
  generalize w1.plus e2 = w3 at *
  clear O1
  replace O2 := Lib.hid O2
  go_upto_block 0 with fail
  go_cut [8] from 20 to 31 (fun v wz => v = nI m ∧ Own W wz (storeA S (run13 (ds.take m)) :: cellsA Mb [nI mask] :: cellsA Kb [nI kind] :: []))
  case first =>
    go_wp2_with fail
    go_loopw [8] (fun v wr => ∃ i : Nat, i ≤ m ∧ v = nI i ∧ Own W wr (storeA S (run13 (ds.take i)) :: cellsA Mb [nI mask] :: cellsA Kb [nI kind] :: [])) (fun v _ => m - (intOf v).toNat)
    case atStart => exact ⟨0, by omega, rfl, O2.out⟩
    case round =>
      clear O2
      obtain ⟨i, hi, rfl, O2⟩ := hrel
      by_cases hlt : i < m
      · have hlti : (i : Int) < m := by omega
        obtain ⟨d, hdi⟩ : ∃ d, ds[i]? = some d := ⟨_, List.getElem?_eq_getElem (by rw [← hnn.out]; omega)⟩
        obtain ⟨g, o, rfl⟩ := rows_hA hr.out (by omega)
        have hDW := Lib.hid (dd_here hr.out i d hdi (by omega))
        obtain ⟨G, C, hT⟩ := run13_good (ds.take i)
        rw [List.length_take] at hT
        have hdd := hid.out d (List.mem_of_getElem? hdi)
        have k1 : RowKit.Hid (∀ l wz, Own W wz (storeA S (run13 (ds.take i)) :: l) → _) := Lib.hid (fun l wz O => do_O O G d hdd.1 (by omega))
        have e1 : run13 (ds.take (i + 1)) = (doT (run13 (ds.take i)) d).1 := by rw [take_snoc hdi, run13_snoc]
        rw [← e1] at k1
        obtain ⟨T2, hT2⟩ : ∃ T2, T2 = run13 (ds.take (i + 1)) := ⟨_, rfl⟩
        rw [← hT2] at k1
        generalize (doT (run13 (ds.take i)) d).2 = z at *
        obtain ⟨hInD, a0, a1, a2, a3, a4, a5, a6, a7, a8, a9, a10, a11, a12⟩ := hDW.out wr O2.p
        clear e1 G C hT hdd hdi
        replace hT2 := Lib.hid hT2
        replace O2 := Lib.hid O2
        go_wp2_with (go_at_call 17; (with_reducible refine (k1.out _ _ O2.out).mono ?_); rintro e w5 ⟨rfl, O5⟩; replace O5 := Lib.hid O5)
        go_roundw
        case rel => exact ⟨i + 1, hlt, by go_num, by rw [← hT2.out]; exact O5.out⟩
        case measure => simp [intOf]; omega
      · obtain rfl : i = m := by omega
        replace O2 := Lib.hid O2
        go_wp2_with fail
        go_meet
        exact ⟨rfl, O2.out⟩
  clear O2
  obtain ⟨rfl, O2⟩ := hcut
  obtain ⟨G, CL, hT⟩ := run13_good (ds.take m)
  rw [List.length_take] at hT
  have hT6 : total (run13 (ds.take m)) ≤ 60 := by omega
  generalize run13 (ds.take m) = T at *
  clear hT hm hr hid hnn hc hn hmd
  obtain ⟨n, hn⟩ : ∃ n, n = total T := ⟨_, rfl⟩
  have hn60 : n ≤ 60 := by omega
  have kL := len_store O2
  rw [← hn] at kL
  have kB := fun wz (p : wc.Plus wz) => bnew_O (Own.atP O2 wz p)
  replace hn := Lib.hid hn
  replace kL := Lib.hid kL
  replace kB := Lib.hid kB
  clear O2
  go_upto_region 12 with (first
    | (go_at_call 18; (with_reducible refine kL.out.mono ?_); rintro e w' ⟨rfl, e1, rfl⟩)
    | (go_at_call 12; (with_reducible refine (kB.out _ (by (repeat (first | exact Plus.refl _ | apply Plus.plus | apply Plus.alloc | apply Plus.drew)))).mono ?_); rintro e w4 ⟨B, rfl, O4⟩))
  have O5 := ((O4.newCells [chP B] 27).newCells [nI 0] 3).newCells [chP S] 25
  rw [World.size_alloc, World.size_alloc] at O5
  clear O4 kL kB
  go_wp2_with (go_at_call 15; (with_reducible refine (all_any S _).mono ?_); rintro e w2 ⟨rfl, rfl⟩)
  generalize w4.heap.size = Pb at *
  obtain ⟨Xb, hXb⟩ : ∃ n, n = Pb + 1 := ⟨_, rfl⟩
  rw [← hXb] at O5 ⊢
  obtain ⟨Fb, hFb⟩ : ∃ n, n = Xb + 1 := ⟨_, rfl⟩
  have hFb2 : Pb + 2 = Fb := by omega
  try simp only [hFb2] at O5 ⊢
  try simp only [← hFb] at O5 ⊢
  clear hXb hFb hFb2
  obtain ⟨w13, hw13⟩ : ∃ w13, (((w4.alloc (.cells #[chP B] 27)).alloc (.cells #[nI 0] 3)).alloc (.cells #[chP S] 25)) = w13 := ⟨_, rfl⟩
  replace O5 : Own W w13 (cellsA Fb [chP S] :: cellsA Xb [nI 0] :: cellsA Pb [chP B] :: bufA B [] :: storeA S T :: cellsA Mb [nI mask] :: cellsA Kb [nI kind] :: []) := by rw [← hw13]; exact O5
  rw [hw13]
  clear hw13
  have O6 : Own W w13 ([storeA S T, cellsA Fb [chP S]] ++ (cellsA Xb [nI ((([] : List BdR).length : Nat) : Int)] :: cellsA Pb [chP B] :: bufA B (deedsOf kind mask []) :: cellsA Mb [nI mask] :: cellsA Kb [nI kind] :: [])) := O5.pull 4 rfl
  clear O5
  rename_i K1 hK1
  replace hK1 := Lib.hid hK1
  refine (wpIn_wide (n := 20)).1 ?_
  refine wpIn_rangeM (F := Fence.wide) (n := 20) (W0 := W) (α := BdR) 12 rfl (by omega) (gf := 28) (lb := #[.pointer (some ⟨Fb, 0, none⟩)]) rfl trivial enters_all1 (all1_gives 19 (by omega) W S Fb T G (by omega))
    (fun pre => cellsA Xb [nI ((pre.length : Nat) : Int)] :: cellsA Pb [chP B] :: bufA B (deedsOf kind mask pre) :: cellsA Mb [nI mask] :: cellsA Kb [nI kind] :: []) O6 BdR.cs 40 ?assign ?body ?done
  case assign =>
    intro l x W K hK
    gi_wp2
    exact hK
  case body =>
    intro lr Bx pre x post Wr R hpre O
    have hlen : pre.length < 60 := by
      have := congrArg List.length hpre
      rw [allT_length, List.length_append, List.length_cons] at this
      omega
    have O1 : Own W Wr (cellsA Bx x.cs :: storeA S T :: cellsA Fb [chP S] :: cellsA Xb [nI ((pre.length : Nat) : Int)] :: cellsA Pb [chP B] :: bufA B (deedsOf kind mask pre) :: cellsA Mb [nI mask] :: cellsA Kb [nI kind] :: [] ++ R) := O
    obtain ⟨lX, qX, fX⟩ := O1.cells 3 rfl
    have x0 := qX 0 (by simp)
    have xf0 := fX 0
    simp only [List.getElem?_cons_zero] at x0
    haveI : InW Xb Wr := ⟨lX⟩
    have O2 := O1.setCellAt 3 0 (nI ((pre.length : Int) + 1)) rfl (by simp)
    simp only [List.set_cons_succ, List.set_cons_zero] at O2
    have hlp := Lib.hid (show ((pre ++ [x]).length : Int) = (pre.length : Int) + 1 by rw [List.length_append, List.length_singleton]; omega)
    have hdl := deedsOf_length kind mask pre
    have hds := Lib.hid (deedsOf_snoc kind mask pre x)
    obtain ⟨n1, hn1⟩ : ∃ n1, n1 = pre.length := ⟨_, rfl⟩
    rw [← hn1] at x0 O2 hlen hlp hdl
    replace hn1 := Lib.hid hn1
    generalize deedsOf kind mask pre = dp at *
    clear qX fX lX O O1 O6 hpre
    simp only [rangeM, List.setIfInBounds_toArray, List.set_cons_succ, List.set_cons_zero]
    gi_upto_region 15 with fail
    obtain ⟨W2, hW2⟩ : ∃ W2, Wr.setCell ⟨Xb, 0, none⟩ (nI ((n1 : Int) + 1)) = W2 := ⟨_, rfl⟩
    rw [hW2] at O2 ⊢
    clear hW2 x0 xf0
    obtain ⟨hIn, q0, q1, q2, q3, q4, q5, q6, q7, q8, q9, q10⟩ := boxAt (b := x) 0 O2 rfl
    obtain ⟨lP, qP, _⟩ := O2.cells 4 rfl
    have p0 := qP 0 (by simp)
    obtain ⟨lM, qM, _⟩ := O2.cells 6 rfl
    have m0 := qM 0 (by simp)
    obtain ⟨lK, qK, _⟩ := O2.cells 7 rfl
    have k0 := qK 0 (by simp)
    simp only [List.getElem?_cons_zero] at p0 m0 k0
    haveI : InW Pb W2 := ⟨lP⟩
    haveI : InW Mb W2 := ⟨lM⟩
    haveI : InW Kb W2 := ⟨lK⟩
    have kA := badd_O ((O2.pull 5 rfl).alloc (.cells #[nI kind, nI x.id.s, nI x.id.i, nI x.id.g, nI x.mask, nI x.x, nI x.y, nI x.vx, nI x.vy, nI x.hp, nI x.pw, nI x.lf, nI mask] 45)) (some ⟨W2.heap.size, 0, none⟩) 1 [⟨kind, x, mask⟩] 1 rfl (src_one W W2 [] ⟨kind, x, mask⟩) (by rw [hdl]; show n1 + 1 ≤ 100000; omega)
    replace kA := Lib.hid kA
    clear qP qM qK lP lM lK O2 hdl
    gi_wp2_with ((refine ⟨trivial, ?_⟩; gi_at_call 13; refine (callsIn_wide.2 kA.out).mono ?_; rintro e w5 ⟨rfl, O5⟩))
    have O7 : Own W w5 ([storeA S T, cellsA Fb [chP S]] ++ ((cellsA Xb [nI (((pre ++ [x]).length : Nat) : Int)] :: cellsA Pb [chP B] :: bufA B (deedsOf kind mask (pre ++ [x])) :: cellsA Mb [nI mask] :: cellsA Kb [nI kind] :: []) ++ R)) := by
      rw [hlp.out, hds.out]
      have h1 : Own W w5 (bufA B (dp ++ [⟨kind, x, mask⟩]) :: cellsA Bx x.cs :: storeA S T :: cellsA Fb [chP S] :: cellsA Xb [nI ((n1 : Int) + 1)] :: cellsA Pb [chP B] :: cellsA Mb [nI mask] :: cellsA Kb [nI kind] :: [] ++ R) := O5
      exact (((((h1.pull 1 rfl).drop.pull 4 rfl).pull 4 rfl).pull 4 rfl).pull 4 rfl)
    exact O7
  case done =>
    intro D Wd O
    simp only [Exit.inBlock, Exit.then]
    refine hK1.out _ _ ?_
    clear hK1 O6
    obtain ⟨f1, f3, f4⟩ := looks_all G kind mask
    have hal := allT_length T
    have hidd : ∀ d ∈ deedsOf kind mask (allT T), IdW d.b.id := fun d hd => by
      unfold deedsOf at hd
      obtain ⟨e, he, rfl⟩ := List.mem_map.1 hd
      exact okB_id ((all_fine G).ok e he)
    have hdl := deedsOf_length kind mask (allT T)
    obtain ⟨G2, CL2, hT2⟩ := doAll_good G CL (deedsOf kind mask (allT T))
    have hel := errs_length T (deedsOf kind mask (allT T))
    rw [hal, ← hn.out] at O
    rw [hal, ← hn.out] at hdl
    rw [hdl] at hel hT2
    rw [← hn.out] at f1
    have kF := flush_O (W := W) (wx := Wd) (S := S) (B := B) (T := T) (ds := deedsOf kind mask (allT T)) (l := rawA D (.deferred (some [])) :: cellsA Fb [chP S] :: cellsA Xb [nI (n : Int)] :: cellsA Pb [chP B] :: cellsA Mb [nI mask] :: cellsA Kb [nI kind] :: []) (by
      have h1 : Own W Wd (rawA D (.deferred (some [])) :: storeA S T :: cellsA Fb [chP S] :: cellsA Xb [nI (n : Int)] :: cellsA Pb [chP B] :: bufA B (deedsOf kind mask (allT T)) :: cellsA Mb [nI mask] :: cellsA Kb [nI kind] :: []) := O
      exact ((h1.pull 5 rfl).pull 2 rfl)) G CL hidd (by rw [hdl]; omega)
    rw [hdl] at kF
    generalize doAll T (deedsOf kind mask (allT T)) = T2 at *
    generalize errs T (deedsOf kind mask (allT T)) = er at *
    have O1 : Own W Wd (rawA D (.deferred (some [])) :: storeA S T :: cellsA Fb [chP S] :: cellsA Xb [nI (n : Int)] :: cellsA Pb [chP B] :: bufA B (deedsOf kind mask (allT T)) :: cellsA Mb [nI mask] :: cellsA Kb [nI kind] :: []) := O
    obtain ⟨lP, qP, _⟩ := O1.cells 4 rfl
    have p0 := qP 0 (by simp)
    simp only [List.getElem?_cons_zero] at p0
    haveI : InW Pb Wd := ⟨lP⟩
    clear O O1 qP lP hidd hdl hal
    replace kF := Lib.hid kF
    replace f1 := Lib.hid f1
    replace f3 := Lib.hid f3
    replace f4 := Lib.hid f4
    replace hel := Lib.hid hel
    go_upto_region 17 with (go_at_call 14; (with_reducible refine kF.out.mono ?_); rintro e w15 ⟨Z, cz, rfl, O2⟩)
    clear p0 kF
    replace O2 : Own W w15 (slA 1 (.slice Z n cz) n (erCs er) :: storeA S T2 :: bufA B [] :: rawA D (.deferred (some [])) :: cellsA Fb [chP S] :: cellsA Xb [nI (n : Int)] :: cellsA Pb [chP B] :: cellsA Mb [nI mask] :: cellsA Kb [nI kind] :: []) := O2
    obtain ⟨lX, qX, _⟩ := O2.cells 5 rfl
    have x0 := qX 0 (by simp)
    obtain ⟨lM, qM, _⟩ := O2.cells 7 rfl
    have m0 := qM 0 (by simp)
    obtain ⟨lK, qK, _⟩ := O2.cells 8 rfl
    have k0 := qK 0 (by simp)
    simp only [List.getElem?_cons_zero] at x0 m0 k0
    haveI : InW Xb w15 := ⟨lX⟩
    haveI : InW Mb w15 := ⟨lM⟩
    haveI : InW Kb w15 := ⟨lK⟩
    have hnn : ((n : Int) != (n : Int)) = false := by simp
    have kL := fun wz (p : w15.Plus wz) => len_store (Own.atP (O2.pull 1 rfl) wz p)
    have hAt := Lib.hid (Own.atP (O2.pull 3 rfl))
    have O2' := Lib.hid O2
    clear qX qM qK lX lM lK
    replace O2 := Lib.hid O2
    by_cases e2 : kind = 2
    · subst e2
      have ht0 : total T2 = 0 := by have := f1.out; rw [if_pos rfl] at this; omega
      rw [ht0] at kL
      replace kL := Lib.hid kL
      clear f3 f4 ht0 hT2
      go_wp2_with (first
        | (go_at_call 18; (with_reducible refine (kL.out _ (by (repeat (first | exact Plus.refl _ | apply Plus.plus | apply Plus.alloc | apply Plus.drew)))).mono ?_); rintro e w' ⟨rfl, e7, rfl⟩)
        | (go_at_call 9; (with_reducible refine (awake_any _).mono ?_); rintro e w' ⟨rfl, e8, rfl⟩))
      have O9 := hAt.out _ (show w15.Plus ((w15.plus e7).plus e8) by (repeat (first | exact Plus.refl _ | apply Plus.plus | apply Plus.alloc | apply Plus.drew)))
      have hK := O9.raw
      have O10 := O9.putRaw (.deferred none)
      refine ⟨by simp, .inl ⟨_, _, rfl, run_takeDeferred hK, ?_⟩⟩
      exact ⟨_, results_tmp rfl _ _ _, rfl, O10.p⟩
    have htn : ((total T2 : Nat) : Int) = (n : Int) := by have := f1.out; rw [if_neg e2] at this; omega
    rw [htn] at kL
    replace kL := Lib.hid kL
    have hb2 : (kind == 2) = false := by simpa using e2
    clear htn hT2
    have hAll := Lib.hid (Own.atP O2'.out)
    clear O2'
    by_cases e3 : kind = 3
    · subst e3
      have hq : ∀ x ∈ er, (x == 0) = true := fun x hx => by rw [f3.out rfl x hx]; rfl
      replace hq := Lib.hid hq
      clear f3 f4 f1 e2
      go_wp2_with fail
      go_loopw [14] (fun v wr => ∃ i : Nat, i ≤ n ∧ v = nI i ∧ w15.Plus wr) (fun v _ => n - (intOf v).toNat)
      case atStart => exact ⟨0, by omega, rfl, Plus.refl _⟩
      case round =>
        obtain ⟨i, hi, rfl, hp⟩ := hrel
        have O3 := hAll.out _ hp
        obtain ⟨lM, qM, _⟩ := O3.cells 7 rfl
        have m0 := qM 0 (by simp)
        obtain ⟨lK, qK, _⟩ := O3.cells 8 rfl
        have k0 := qK 0 (by simp)
        simp only [List.getElem?_cons_zero] at m0 k0
        haveI : InW Mb wr := ⟨lM⟩
        haveI : InW Kb wr := ⟨lK⟩
        clear qM qK lM lK
        by_cases hlt : i < n
        · have hlti : (i : Int) < n := by omega
          obtain ⟨x, hxi⟩ : ∃ x, er[i]? = some x := ⟨_, List.getElem?_eq_getElem (by rw [hel.out]; exact hlt)⟩
          have hx := hq.out x (List.mem_of_getElem? hxi)
          obtain ⟨g, o, hA, hg, q1⟩ := sl_er (O3.sl 0 rfl) i x hxi hlt
          subst hA
          replace hxi := Lib.hid hxi
          replace hp := Lib.hid hp
          clear O3
          go_upto_region 27 with fail
          refine wp_region_grow (by kernel_rfl) (by kernel_rfl) ?_
          repeat (go_big_quiet_step (fail))
          refine wpQuiet_nil ?_
          intro ex
          go_wp2_with fail
          go_roundw
          case rel => exact ⟨i + 1, hlt, by go_num, Plus.trans hp.out (by (repeat (first | exact Plus.refl _ | apply Plus.plus | apply Plus.alloc | apply Plus.drew)))⟩
          case measure => simp [intOf]; omega
        · obtain rfl : i = n := by omega
          have kL2 := Lib.hid (fun wz (p : wr.Plus wz) => kL.out wz (Plus.trans hp p))
          replace hp := Lib.hid hp
          clear O3 kL
          go_wp2_with (first
            | (go_at_call 18; (with_reducible refine (kL2.out _ (by (repeat (first | exact Plus.refl _ | apply Plus.plus | apply Plus.alloc | apply Plus.drew)))).mono ?_); rintro e w' ⟨rfl, e7, rfl⟩)
            | (go_at_call 9; (with_reducible refine (awake_any _).mono ?_); rintro e w' ⟨rfl, e8, rfl⟩))
          have O9 := hAt.out _ (Plus.trans hp.out (show wr.Plus ((wr.plus e7).plus e8) by (repeat (first | exact Plus.refl _ | apply Plus.plus | apply Plus.alloc | apply Plus.drew))))
          have hK := O9.raw
          have O10 := O9.putRaw (.deferred none)
          refine ⟨by simp, .inl ⟨_, _, rfl, run_takeDeferred hK, ?_⟩⟩
          exact ⟨_, results_tmp rfl _ _ _, rfl, O10.p⟩
    by_cases e4 : kind = 4
    · subst e4
      obtain ⟨qv, hqv⟩ : ∃ qv, qv = !bitB mask 1 := ⟨_, rfl⟩
      have hq : ∀ x ∈ er, (x == 0) = qv := fun x hx => by
        have := f4.out rfl x hx
        rw [hqv]
        cases hb : bitB mask 1 with
        | true =>
          rw [hb] at this
          simp only [Bool.not_true, beq_eq_false_iff_ne, ne_eq]
          simpa using this
        | false =>
          rw [hb] at this
          simp only [Bool.not_false, beq_iff_eq]
          simpa using this
      have hmz : (bits .and .i64 mask 1 == 0) = qv := by rw [and_one_zero, hqv]
      have hqq : (qv != qv) = false := by simp
      replace hq := Lib.hid hq
      clear f3 f4 f1 e2 e3 hqv
      go_wp2_with fail
      go_loopw [14] (fun v wr => ∃ i : Nat, i ≤ n ∧ v = nI i ∧ w15.Plus wr) (fun v _ => n - (intOf v).toNat)
      case atStart => exact ⟨0, by omega, rfl, Plus.refl _⟩
      case round =>
        obtain ⟨i, hi, rfl, hp⟩ := hrel
        have O3 := hAll.out _ hp
        obtain ⟨lM, qM, _⟩ := O3.cells 7 rfl
        have m0 := qM 0 (by simp)
        obtain ⟨lK, qK, _⟩ := O3.cells 8 rfl
        have k0 := qK 0 (by simp)
        simp only [List.getElem?_cons_zero] at m0 k0
        haveI : InW Mb wr := ⟨lM⟩
        haveI : InW Kb wr := ⟨lK⟩
        clear qM qK lM lK
        by_cases hlt : i < n
        · have hlti : (i : Int) < n := by omega
          obtain ⟨x, hxi⟩ : ∃ x, er[i]? = some x := ⟨_, List.getElem?_eq_getElem (by rw [hel.out]; exact hlt)⟩
          have hx := hq.out x (List.mem_of_getElem? hxi)
          obtain ⟨g, o, hA, hg, q1⟩ := sl_er (O3.sl 0 rfl) i x hxi hlt
          subst hA
          replace hxi := Lib.hid hxi
          replace hp := Lib.hid hp
          clear O3
          go_upto_region 27 with fail
          refine wp_region_grow (by kernel_rfl) (by kernel_rfl) ?_
          repeat (go_big_quiet_step (fail))
          refine wpQuiet_nil ?_
          intro ex
          go_wp2_with fail
          go_roundw
          case rel => exact ⟨i + 1, hlt, by go_num, Plus.trans hp.out (by (repeat (first | exact Plus.refl _ | apply Plus.plus | apply Plus.alloc | apply Plus.drew)))⟩
          case measure => simp [intOf]; omega
        · obtain rfl : i = n := by omega
          have kL2 := Lib.hid (fun wz (p : wr.Plus wz) => kL.out wz (Plus.trans hp p))
          replace hp := Lib.hid hp
          clear O3 kL
          go_wp2_with (first
            | (go_at_call 18; (with_reducible refine (kL2.out _ (by (repeat (first | exact Plus.refl _ | apply Plus.plus | apply Plus.alloc | apply Plus.drew)))).mono ?_); rintro e w' ⟨rfl, e7, rfl⟩)
            | (go_at_call 9; (with_reducible refine (awake_any _).mono ?_); rintro e w' ⟨rfl, e8, rfl⟩))
          have O9 := hAt.out _ (Plus.trans hp.out (show wr.Plus ((wr.plus e7).plus e8) by (repeat (first | exact Plus.refl _ | apply Plus.plus | apply Plus.alloc | apply Plus.drew))))
          have hK := O9.raw
          have O10 := O9.putRaw (.deferred none)
          refine ⟨by simp, .inl ⟨_, _, rfl, run_takeDeferred hK, ?_⟩⟩
          exact ⟨_, results_tmp rfl _ _ _, rfl, O10.p⟩
    have hb3 : (kind == 3) = false := by simpa using e3
    have hb4 : (kind == 4) = false := by simpa using e4
    replace e2 := Lib.hid e2
    replace e3 := Lib.hid e3
    replace e4 := Lib.hid e4
    go_wp2_with (first
      | (go_at_call 18; (with_reducible refine (kL.out _ (by (repeat (first | exact Plus.refl _ | apply Plus.plus | apply Plus.alloc | apply Plus.drew)))).mono ?_); rintro e w' ⟨rfl, e7, rfl⟩)
      | (go_at_call 9; (with_reducible refine (awake_any _).mono ?_); rintro e w' ⟨rfl, e8, rfl⟩))
    have O9 := hAt.out _ (show w15.Plus ((w15.plus e7).plus e8) by (repeat (first | exact Plus.refl _ | apply Plus.plus | apply Plus.alloc | apply Plus.drew)))
    have hK := O9.raw
    have O10 := O9.putRaw (.deferred none)
    refine ⟨by simp, .inl ⟨_, _, rfl, run_takeDeferred hK, ?_⟩⟩
    exact ⟨_, results_tmp rfl _ _ _, rfl, O10.p⟩
end Go.Proofs.Ytkdagljoiacaaaa
