/- BufferParts: walk. -/
import Derived.Test.YtkdagljoiacaaaaBufA
import Derived.Test.YtkdagljoiacaaaaArH
import Derived.Test.YtkdagljoiacaaaaRangeM
set_option linter.unusedSimpArgs false
set_option linter.unusedVariables false
namespace Go.Proofs.Ytkdagljoiacaaaa
open Go.RowKit Go.Shelf
theorem src_ers {w : World} {A : Option Addr} {n c : Nat} {es : List Int} (h : Sl w 1 (.slice A n c) n (erCs es)) (hn : n = es.length) : Src Try.prog 1 31 (.slice A n c) n (erCs es) w := by
  have h1 : ∀ u ∈ erCs es, u.oneCell' = true := fun u hu => by
    obtain ⟨x, _, rfl⟩ := List.mem_map.1 hu
    rfl
  rcases h.val with ⟨he, h0⟩ | ⟨g, off, cap, he, _, _, _, hc, _⟩
  · cases he
    obtain rfl : es = [] := List.eq_nil_of_length_eq_zero (by omega)
    exact Src.ofNil w underErs 0
  · cases he
    exact Src.ofSlice w underErs ⟨g, off, none⟩ n c (erCs es) (by rw [List.length_map, hn, Nat.mul_one]) (fun j u hj => by
      rw [Addr.add_lit, hc j (by have := (List.getElem?_eq_some_iff.1 hj).1; rw [List.length_map, ← hn] at this; omega)]
      exact hj) h1
theorem rows_drop {w : World} {g o n K : Nat} {ds : List DdR} (h : RowsAt w (some ⟨g, o, none⟩) 13 n (ddRow ds)) (hK : K < n) : RowsAt w (some ⟨g, o + K * 13, none⟩) 13 (n - K) (ddRow (ds.drop K)) := fun h0 => by
  obtain ⟨g', o', hA, hl, hc⟩ := h (by omega)
  cases hA
  refine ⟨g, o + K * 13, rfl, hl, fun i j hi hj => ?_⟩
  have := hc (K + i) j (by omega) hj
  rw [show o + K * 13 + (i * 13 + j) = o + ((K + i) * 13 + j) by rw [Nat.add_mul]; omega, this]
  unfold ddRow
  have e : (ds.drop K).getD i dd0 = ds.getD (K + i) dd0 := by rw [List.getD_eq_getElem?_getD, List.getD_eq_getElem?_getD, List.getElem?_drop]
  rw [e]
theorem rows_none {w : World} {A : Option Addr} {ds : List DdR} : RowsAt w A 13 0 (ddRow ds) := fun h0 => by omega
attribute [local go_sem] Oper.semAt_some
set_option maxRecDepth 100000 in
set_option maxHeartbeats 400000 in
theorem parts_core (W : World) (ds : List DdR) (A : Option Addr) (cp : Nat) (cut : Int) (hcut : -9223372036854775808 ≤ cut ∧ cut ≤ 9223372036854775807) (hc : ds.length ≤ cp) (hn : cp ≤ 9223372036854775807) (hr : RowsAt W A 13 ds.length (ddRow ds)) (hid : ∀ d ∈ ds, DdW d)
    (m K : Nat) (hm : m = min ds.length 60) (hK : K ≤ m) (hk : ((cut.tmod ((m : Int) + 1) + (m : Int) + 1).tmod ((m : Int) + 1)) = (K : Int))
    (E1 E2 : Option Addr) (c1 c2 : Nat) (hs1 : ∀ w, (Instr.sliceAt 22 (.slice A m cp) none (some (nI K)) none).run Try.prog w = .ok (.slice E1 K c1) w) (hs2 : ∀ w, (Instr.sliceAt 22 (.slice A m cp) (some (nI K)) none none).run Try.prog w = .ok (.slice E2 (m - K) c2) w)
    (hr1 : RowsAt W E1 13 K (ddRow ((ds.take m).take K))) (hr2 : RowsAt W E2 13 (m - K) (ddRow ((ds.take m).drop K))) :
    Calls Try.prog 3 #[.slice A ds.length cp, nI cut] W fun e w' => e = .returned (.bool true) ∧ W.Plus w' := by
  obtain ⟨i0, hi0, hz0, hz1, hz2⟩ := info_parts infoEr
  obtain ⟨j0, hj0, hy0, hy1, hy2⟩ := info_parts infoBd
  replace hj0 := Lib.hid hj0
  replace hy0 := Lib.hid hy0
  replace hy1 := Lib.hid hy1
  replace hy2 := Lib.hid hy2
  replace hi0 := Lib.hid hi0
  replace hz0 := Lib.hid hz0
  replace hz1 := Lib.hid hz1
  replace hz2 := Lib.hid hz2
  have kF := Lib.hid (fun w => few_any A ds.length cp w hc (by omega) (rows_hA hr))
  rw [← hm] at kF
  have hm60 : m ≤ 60 := by omega
  have hidE : ∀ d ∈ ds.take m, DdW d := fun d hd => hid d (List.mem_of_mem_take hd)
  have hlE : (ds.take m).length = m := by rw [List.length_take]; omega
  generalize ds.length = nn at *
  generalize ds.take m = es at *
  have hl1 : (es.take K).length = K := by rw [List.length_take]; omega
  have hl2 : (es.drop K).length = m - K := by rw [List.length_drop]; omega
  have hid1 : ∀ d ∈ es.take K, IdW d.b.id := fun d hd => (hidE d (List.mem_of_mem_take hd)).1
  have hid2 : ∀ d ∈ es.drop K, IdW d.b.id := fun d hd => (hidE d (List.mem_of_mem_drop hd)).1
  have hid0 : ∀ d ∈ es, IdW d.b.id := fun d hd => (hidE d hd).1
  have htd : es.take K ++ es.drop K = es := List.take_append_drop K es
  obtain ⟨a1, ha1⟩ : ∃ a, a = es.take K := ⟨_, rfl⟩
  obtain ⟨a2, ha2⟩ : ∃ a, a = es.drop K := ⟨_, rfl⟩
  rw [← ha1] at hl1 hid1 htd hr1
  rw [← ha2] at hl2 hid2 htd hr2
  clear ha1 ha2 hid hr hidE
  have kA1 := Lib.hid (fun B (ds : List DdR) (l : List Asn) wz (h6 : ds.length ≤ 60) (O : Own W wz (bufA B ds :: l)) => badd_O O E1 c1 a1 K hl1.symm (src_ddr (RowsAt.plus hr1 O.p) hl1.symm c1) (by omega))
  have kA2 := Lib.hid (fun B (ds : List DdR) (l : List Asn) wz (h6 : ds.length ≤ 60) (O : Own W wz (bufA B ds :: l)) => badd_O O E2 c2 a2 (m - K) hl2.symm (src_ddr (RowsAt.plus hr2 O.p) hl2.symm c2) (by omega))
  have kN := Lib.hid (fun wz (p : W.Plus wz) => new_store (Own.nil p))
  have hKi : (K : Int) ≤ m := by omega
  have hm1 : (0 : Int) < (m : Int) + 1 := Int.lt_add_one_of_le (Int.natCast_nonneg m)
  have hb1 := Int.tmod_lt_of_pos cut hm1
  have hb2 := Int.lt_tmod_of_pos cut hm1
  clear hcut
  have hne : ¬ (m : Int) + 1 = 0 := Int.ne_of_gt hm1
  replace hl1 := Lib.hid hl1
  replace hl2 := Lib.hid hl2
  replace hlE := Lib.hid hlE
  replace htd := Lib.hid htd
  replace hid0 := Lib.hid hid0
  replace hid1 := Lib.hid hid1
  replace hid2 := Lib.hid hid2
  replace hm := Lib.hid hm
  clear hr1 hr2
  refine (callsIn_wide (n := 20)).1 ?_
  refine callsIn_of_wp_marks Try.func3 rfl trivial ?_ rfl
  simp only [Try.ntmps3, List.size_toArray, List.length_cons, List.length_nil, Nat.reduceAdd, Nat.reduceSub, Array.replicate_succ, Array.replicate_zero, List.push_toArray, List.append_toArray, List.nil_append, List.cons_append]
  refine wpIn_wide.2 ?_
  go_upto_region 5 with (first
    | (go_at_call 9; (with_reducible refine (awake_any _).mono ?_); rintro e w' ⟨rfl, e1, rfl⟩)
    | (go_at_call 10; (with_reducible refine (kF.out _).mono ?_); clear kF; rintro e w2 ⟨rfl, e2, rfl⟩))
  have hp0 : W.Plus ((W.plus e1).plus e2) := by (repeat (first | exact Plus.refl _ | apply Plus.plus | apply Plus.alloc | apply Plus.drew))
  generalize (W.plus e1).plus e2 = w0 at *
  clear hk hb1 hb2 hm1 hne hn hc
  replace hp0 := Lib.hid hp0
  go_upto_region 7 with (first
    | (go_at_call 11; (with_reducible refine (kN.out _ hp0.out).mono ?_); clear kN; rintro e w1 ⟨S1, rfl, O1⟩; have kM := Lib.hid (new_store O1); clear O1)
    | (go_at_call 11; (with_reducible refine kM.out.mono ?_); clear kM; rintro e w2 ⟨S2, rfl, O2⟩; have kB1 := Lib.hid (bnew_O O2); clear O2)
    | (go_at_call 12; (with_reducible refine kB1.out.mono ?_); clear kB1; rintro e w3 ⟨B1, rfl, O3⟩; have kB2 := Lib.hid (bnew_O O3); clear O3)
    | (go_at_call 12; (with_reducible refine kB2.out.mono ?_); clear kB2; rintro e w4 ⟨B2, rfl, O4⟩))
  have OA := Lib.hid (O4.rot1)
  clear O4
  go_upto_region 8 with (go_at_call 13; (with_reducible refine (kA1.out B1 [] _ _ (Nat.zero_le _) OA.out).mono ?_); rintro e w5 ⟨rfl, O5⟩)
  have O5b : Own W w5 (storeA S1 (fun _ => []) :: bufA B1 a1 :: bufA B2 [] :: storeA S2 (fun _ => []) :: []) := O5.pull 3 rfl
  have kF1 := flush_O O5b good_none cln_none hid1.out (by rw [total0, hl1.out]; omega)
  rw [hl1.out] at kF1
  replace kF1 := Lib.hid kF1
  clear O5 O5b OA
  go_upto_region 9 with (go_at_call 14; (with_reducible refine kF1.out.mono ?_); rintro e w6 ⟨X, cx, rfl, O6⟩)
  have OA := Lib.hid (O6.pull 2 rfl)
  clear O6 kF1
  obtain ⟨G1, CL1, hT1⟩ := doAll_good good_none cln_none a1
  have hK60 : K ≤ 60 := by omega
  have hT1' : total (doAll (fun _ => []) a1) ≤ 60 := by rw [total0, hl1.out] at hT1; omega
  go_upto_region 10 with (go_at_call 13; (with_reducible refine (kA2.out B1 [] _ _ (Nat.zero_le _) OA.out).mono ?_); rintro e w7 ⟨rfl, O7⟩)
  have O7b : Own W w7 (storeA S1 (doAll (fun _ => []) a1) :: bufA B1 a2 :: slA 1 (.slice X K cx) K (erCs (errs (fun _ => []) a1)) :: bufA B2 [] :: storeA S2 (fun _ => []) :: []) := O7.pull 2 rfl
  have kF2 := flush_O O7b G1 CL1 hid2.out (by rw [hl2.out]; omega)
  rw [hl2.out, ← doAll_append, htd.out] at kF2
  have hee : erCs (errs (fun _ => []) a1) ++ erCs (errs (doAll (fun _ => []) a1) a2) = erCs (errs (fun _ => []) es) := by
    rw [← htd.out, errs_append]
    unfold erCs
    rw [List.map_append]
  have hsl : (errs (doAll (fun _ => []) a1) a2).length = m - K := by rw [errs_length, hl2.out]
  generalize errs (doAll (fun _ => []) a1) a2 = x2 at *
  generalize errs (fun _ => []) a1 = x1 at *
  replace kF2 := Lib.hid kF2
  replace hee := Lib.hid hee
  replace hsl := Lib.hid hsl
  clear O7 O7b OA G1 CL1 hT1 hT1'
  have hKm : K + (m - K) = m := by omega
  replace hKm := Lib.hid hKm
  go_upto_region 11 with (first
    | (go_at_call 14; (with_reducible refine kF2.out.mono ?_); rintro e w8 ⟨Y, cy, rfl, O8⟩; have hS := Lib.hid (src_ers (O8.sl 0 rfl) hsl.out.symm); have OP := Lib.hid (O8.pull 3 rfl); clear O8)
    | (at_builtin; refine wpList_append_O rfl _ _ 31 31 rfl 29 i0 _ 1 8 underErs hi0.out hz0.out hz1.out hz2.out rfl rfl OP.out rfl hS.out (by unfold maxLen; omega) (by omega) ?_; intro Z cz w9 O9))
  rw [hee.out, hKm.out] at O9

  clear OP hS kF2 hee hsl
  have OA : Own W w9 (bufA B2 [] :: slA 1 (.slice Z m cz) m (erCs (errs (fun _ => []) es)) :: storeA S1 (doAll (fun _ => []) es) :: storeA S2 (fun _ => []) :: []) := by
    have := ((O9.pull 1 rfl).drop.pull 2 rfl).drop
    exact this.pull 2 rfl
  replace OA := Lib.hid OA
  clear O9
  go_upto_region 12 with (go_at_call 13; (with_reducible refine (kA1.out B2 [] _ _ (Nat.zero_le _) OA.out).mono ?_); rintro e w10 ⟨rfl, O10⟩)
  replace O10 : Own W w10 (bufA B2 a1 :: slA 1 (.slice Z m cz) m (erCs (errs (fun _ => []) es)) :: storeA S1 (doAll (fun _ => []) es) :: storeA S2 (fun _ => []) :: []) := O10
  clear OA
  have hK6 := Lib.hid (show a1.length ≤ 60 by rw [hl1.out]; exact hK60)
  replace O10 := Lib.hid O10
  go_upto_region 13 with (go_at_call 13; (with_reducible refine (kA2.out B2 a1 _ _ hK6.out O10.out).mono ?_); rintro e w11 ⟨rfl, O11⟩)
  rw [htd.out] at O11
  have hlE2 := hlE.out
  have kF3 := flush_O (O11.pull 3 rfl) good_none cln_none hid0.out (by rw [total0, hlE2]; omega)
  obtain ⟨G, CL, hT⟩ := doAll_good good_none cln_none es
  have hT6 : total (doAll (fun _ => []) es) ≤ 60 := by rw [total0, hlE2] at hT; omega
  have hle := errs_length (fun _ => []) es
  rw [hlE2] at kF3 hle
  generalize errs (fun _ => []) es = er at *
  generalize doAll (fun _ => []) es = T at *
  replace kF3 := Lib.hid kF3
  replace hle := Lib.hid hle
  clear O11 O10 hlE2 hT kA1 kA2
  go_upto_region 14 with (go_at_call 14; (with_reducible refine kF3.out.mono ?_); rintro e w12 ⟨Y, cy, rfl, O12⟩)
  replace O12 : Own W w12 (slA 1 (.slice Y m cy) m (erCs er) :: storeA S2 T :: bufA B2 [] :: slA 1 (.slice Z m cz) m (erCs er) :: storeA S1 T :: []) := O12
  have hmm : ((m : Int) != (m : Int)) = false := by simp
  replace O12 := Lib.hid O12
  clear kF3
  go_upto_block 0 with fail
  go_cut [12] from 81 to 95 (fun v wz => v = nI m ∧ Own W wz (storeA S1 T :: storeA S2 T :: []))
  case first =>
    go_wp2_with fail
    go_loopw [12] (fun v wr => ∃ i : Nat, i ≤ m ∧ v = nI i ∧ w12.Plus wr) (fun v _ => m - (intOf v).toNat)
    case atStart => exact ⟨0, by omega, rfl, Plus.refl _⟩
    case round =>
      obtain ⟨i, hi, rfl, hp⟩ := hrel
      have O2 := Own.atP O12.out _ hp
      by_cases hlt : i < m
      · have hlti : (i : Int) < m := by omega
        obtain ⟨x, hxi⟩ : ∃ x, er[i]? = some x := ⟨_, List.getElem?_eq_getElem (by rw [hle.out]; exact hlt)⟩
        obtain ⟨g, o, hA, hg, q1⟩ := sl_er (O2.sl 0 rfl) i x hxi hlt
        obtain ⟨g', o', hA', hg', q2⟩ := sl_er (O2.sl 3 rfl) i x hxi hlt
        subst hA
        subst hA'
        have hxx : (x != x) = false := by simp
        replace hxi := Lib.hid hxi
        replace hp := Lib.hid hp
        clear O2
        go_upto_region 19 with fail
        refine wp_region_grow (by kernel_rfl) (by kernel_rfl) ?_
        repeat (go_big_quiet_step (fail))
        refine wpQuiet_nil ?_
        intro ex
        go_wp2_with fail
        go_roundw
        case rel => exact ⟨i + 1, hlt, by go_num, Plus.trans hp.out (by (repeat (first | exact Plus.refl _ | apply Plus.plus | apply Plus.alloc | apply Plus.drew)))⟩
        case measure => simp [intOf]; omega
      · obtain rfl : i = m := by omega
        have O3 : Own W wr (storeA S1 T :: storeA S2 T :: []) := ((O2.drop.pull 1 rfl).drop.pull 1 rfl).drop.rot1
        replace O3 := Lib.hid O3
        clear O2
        replace hp := Lib.hid hp
        go_wp2_with fail
        go_meet
        exact ⟨rfl, O3.out⟩
  clear O12
  obtain ⟨rfl, O1⟩ := hcut
  go_upto_region 22 with fail
  have O2 := ((O1.newCells [.slice none 0 0] 33).newCells [.slice none 0 0] 33).newCells [chP S1] 25
  rw [World.size_alloc, World.size_alloc] at O2
  clear O1
  go_wp2_with (go_at_call 15; (with_reducible refine (all_any S1 _).mono ?_); rintro e w2 ⟨rfl, rfl⟩)
  generalize wc.heap.size = Pb at *
  obtain ⟨Qb, hQb⟩ : ∃ n, n = Pb + 1 := ⟨_, rfl⟩
  rw [← hQb] at O2 ⊢
  obtain ⟨Fb, hFb⟩ : ∃ n, n = Qb + 1 := ⟨_, rfl⟩
  have hFb2 : Pb + 2 = Fb := by omega
  have O3 : Own W (((wc.alloc (.cells #[.slice none 0 0] 33)).alloc (.cells #[.slice none 0 0] 33)).alloc (.cells #[chP S1] 25)) (cellsA Fb [chP S1] :: cellsA Qb [.slice none 0 0] :: cellsA Pb [.slice none 0 0] :: storeA S1 T :: storeA S2 T :: []) := by
    rw [hFb]
    exact O2
  try simp only [hFb2]
  try simp only [← hFb]
  clear hQb hFb hFb2 O2
  obtain ⟨w13, hw13⟩ : ∃ w13, (((wc.alloc (.cells #[.slice none 0 0] 33)).alloc (.cells #[.slice none 0 0] 33)).alloc (.cells #[chP S1] 25)) = w13 := ⟨_, rfl⟩
  rw [hw13] at O3 ⊢
  clear hw13
  have O4 : Own W w13 ([storeA S1 T, cellsA Fb [chP S1]] ++ (exA (boxL Pb []) :: cellsA Qb [.slice none 0 0] :: storeA S2 T :: [])) := by
    have h1 := Own.mk (boxL Pb []) (none, 0) ((Own.nilSl (O3.pull 2 rfl) 11).rot1)
    exact (h1.pull 1 rfl).pull 3 rfl
  clear O3
  rename_i K1 hK1
  replace hK1 := Lib.hid hK1
  refine (wpIn_wide (n := 20)).1 ?_
  refine wpIn_rangeM (F := Fence.wide) (n := 20) (W0 := W) (α := BdR) 15 rfl (by omega) (gf := 28) (lb := #[.pointer (some ⟨Fb, 0, none⟩)]) rfl trivial enters_all1 (all1_gives 19 (by omega) W S1 Fb T G (by omega))
    (fun pre => exA (boxL Pb pre) :: cellsA Qb [.slice none 0 0] :: storeA S2 T :: []) O4 BdR.cs 40 ?assign ?body ?done
  case assign =>
    intro l x W K hK
    gi_wp2
    exact hK
  case body =>
    intro lr Bx pre x post Wr R hpre O
    have hlen : pre.length < 80000 := by
      have := congrArg List.length hpre
      rw [allT_length, List.length_append, List.length_cons] at this
      omega
    obtain ⟨⟨A, cp⟩, O1⟩ := (O.pull 3 rfl).ex
    have O2 : Own W Wr (cellsA Pb [.slice A pre.length cp] :: slA 11 (.slice A pre.length cp) pre.length (bdsCs pre) :: cellsA Bx x.cs :: storeA S1 T :: cellsA Fb [chP S1] :: cellsA Qb [.slice none 0 0] :: storeA S2 T :: [] ++ R) := O1
    obtain ⟨lL, qL, fL⟩ := O2.cells 0 rfl
    have l0 := qL 0 (by simp)
    have lf0 := fL 0
    simp only [List.getElem?_cons_zero] at l0
    haveI : InW Pb Wr := ⟨lL⟩
    have B1 := boxAt (b := x) 2 O2 rfl
    obtain ⟨hIn, q0, q1, q2, q3, q4, q5, q6, q7, q8, q9, q10⟩ := B1
    clear qL fL lL O1
    have hS0 : Src Try.prog 11 33 (.slice (some ⟨Wr.heap.size, 0, none⟩) 1 1) 1 x.cs (Wr.alloc (.cells #[nI x.id.s, nI x.id.i, nI x.id.g, nI x.mask, nI x.x, nI x.y, nI x.vx, nI x.vy, nI x.hp, nI x.pw, nI x.lf] 40)) := src_bdNew Wr x 40
    have hS := Lib.hid hS0
    clear hS0
    have OA := Lib.hid ((O2.rot1).alloc (.cells #[nI x.id.s, nI x.id.i, nI x.id.g, nI x.mask, nI x.x, nI x.y, nI x.vx, nI x.vy, nI x.hp, nI x.pw, nI x.lf] 40))
    obtain ⟨n, hn⟩ : ∃ n, n = pre.length := ⟨_, rfl⟩
    rw [← hn] at l0 hlen OA
    replace hn := Lib.hid hn
    clear O O2 hpre
    simp only [rangeM, List.setIfInBounds_toArray, List.set_cons_succ, List.set_cons_zero]
    gi_wp2_with (gi_at_builtin; refine wpListIn_append_O rfl _ _ 33 33 rfl 40 j0 _ 11 88 underBds hj0.out hy0.out hy1.out hy2.out rfl rfl OA.out rfl hS.out (by unfold maxLen; omega) (by omega) ?_; intro A2 c2 w6 O6; obtain ⟨lL6, qL6, fL6⟩ := O6.cells 1 rfl; have l6 := qL6 0 (by simp); have f6 := fL6 0; simp only [List.getElem?_cons_zero] at l6; haveI : InW Pb w6 := ⟨lL6⟩; clear qL6 fL6 lL6)
    have O7 := O6.rot1.setCell (i := 0) (v := .slice A2 (n + 1) c2) (by simp)
    have e : boxL Pb (pre ++ [x]) (A2, c2) = [cellsA Pb [.slice A2 (n + 1) c2], slA 11 (.slice A2 (n + 1) c2) (n + 1) (bdsCs pre ++ x.cs)] := by
      unfold boxL
      rw [List.length_append, List.length_singleton, ← hn.out, bdsCs_append]
      rfl
    have O8 := Own.mk (boxL Pb (pre ++ [x])) (A2, c2) (by rw [e]; exact O7)
    exact (((O8.pull 1 rfl).drop).pull 2 rfl).pull 2 rfl
  case done =>
    intro D Wd O
    simp only [Exit.inBlock, Exit.then]
    refine hK1.out _ _ ?_
    clear hK1
    have O5 := O.newCells [chP S2] 25
    clear O
    go_wp2_with (go_at_call 15; (with_reducible refine (all_any S2 _).mono ?_); rintro e w2 ⟨rfl, rfl⟩)
    generalize Wd.heap.size = Fc at *
    obtain ⟨w14, hw14⟩ : ∃ w14, Wd.alloc (.cells #[chP S2] 25) = w14 := ⟨_, rfl⟩
    replace O5 : Own W w14 (cellsA Fc [chP S2] :: rawA D (.deferred (some [])) :: storeA S1 T :: cellsA Fb [chP S1] :: exA (boxL Pb (allT T)) :: cellsA Qb [.slice none 0 0] :: storeA S2 T :: []) := by rw [← hw14]; exact O5
    rw [hw14]
    clear hw14
    have O6 : Own W w14 ([storeA S2 T, cellsA Fc [chP S2]] ++ (exA (boxL Qb []) :: exA (boxL Pb (allT T)) :: storeA S1 T :: rawA D (.deferred (some [])) :: [])) := by
      have h1 := Own.mk (boxL Qb []) (none, 0) ((Own.nilSl (O5.pull 5 rfl) 11).rot1)
      have h2 := (h1.pull 4 rfl).drop
      exact ((((((h2.pull 2 rfl).pull 3 rfl).pull 4 rfl).pull 3 rfl).pull 4 rfl).pull 5 rfl)
    clear O5
    rename_i K2 hK2
    replace hK2 := Lib.hid hK2
    refine (wpIn_wide (n := 20)).1 ?_
    refine wpIn_rangeM (F := Fence.wide) (n := 20) (W0 := W) (α := BdR) 16 rfl (by omega) (gf := 28) (lb := #[.pointer (some ⟨Fc, 0, none⟩)]) rfl trivial enters_all1 (all1_gives 19 (by omega) W S2 Fc T G (by omega))
      (fun pre => exA (boxL Qb pre) :: exA (boxL Pb (allT T)) :: storeA S1 T :: rawA D (.deferred (some [])) :: []) O6 BdR.cs 40 ?assign ?body ?done
    case assign =>
      intro l x W K hK
      gi_wp2
      exact hK
    case body =>
      intro lr Bx pre x post Wr R hpre O
      have hlen : pre.length < 80000 := by
        have := congrArg List.length hpre
        rw [allT_length, List.length_append, List.length_cons] at this
        omega
      obtain ⟨⟨A, cp⟩, O1⟩ := (O.pull 3 rfl).ex
      have O2 : Own W Wr (cellsA Qb [.slice A pre.length cp] :: slA 11 (.slice A pre.length cp) pre.length (bdsCs pre) :: cellsA Bx x.cs :: storeA S2 T :: cellsA Fc [chP S2] :: exA (boxL Pb (allT T)) :: storeA S1 T :: rawA D (.deferred (some [])) :: [] ++ R) := O1
      obtain ⟨lL, qL, fL⟩ := O2.cells 0 rfl
      have l0 := qL 0 (by simp)
      have lf0 := fL 0
      simp only [List.getElem?_cons_zero] at l0
      haveI : InW Qb Wr := ⟨lL⟩
      have B1 := boxAt (b := x) 2 O2 rfl
      obtain ⟨hIn, q0, q1, q2, q3, q4, q5, q6, q7, q8, q9, q10⟩ := B1
      clear qL fL lL O1
      have hS0 : Src Try.prog 11 33 (.slice (some ⟨Wr.heap.size, 0, none⟩) 1 1) 1 x.cs (Wr.alloc (.cells #[nI x.id.s, nI x.id.i, nI x.id.g, nI x.mask, nI x.x, nI x.y, nI x.vx, nI x.vy, nI x.hp, nI x.pw, nI x.lf] 40)) := src_bdNew Wr x 40
      have hS := Lib.hid hS0
      clear hS0
      have OA := Lib.hid ((O2.rot1).alloc (.cells #[nI x.id.s, nI x.id.i, nI x.id.g, nI x.mask, nI x.x, nI x.y, nI x.vx, nI x.vy, nI x.hp, nI x.pw, nI x.lf] 40))
      obtain ⟨n, hn⟩ : ∃ n, n = pre.length := ⟨_, rfl⟩
      rw [← hn] at l0 hlen OA
      replace hn := Lib.hid hn
      clear O O2 hpre
      simp only [rangeM, List.setIfInBounds_toArray, List.set_cons_succ, List.set_cons_zero]
      gi_wp2_with (gi_at_builtin; refine wpListIn_append_O rfl _ _ 33 33 rfl 40 j0 _ 11 88 underBds hj0.out hy0.out hy1.out hy2.out rfl rfl OA.out rfl hS.out (by unfold maxLen; omega) (by omega) ?_; intro A2 c2 w6 O6; obtain ⟨lL6, qL6, fL6⟩ := O6.cells 1 rfl; have l6 := qL6 0 (by simp); have f6 := fL6 0; simp only [List.getElem?_cons_zero] at l6; haveI : InW Qb w6 := ⟨lL6⟩; clear qL6 fL6 lL6)
      have O7 := O6.rot1.setCell (i := 0) (v := .slice A2 (n + 1) c2) (by simp)
      have e : boxL Qb (pre ++ [x]) (A2, c2) = [cellsA Qb [.slice A2 (n + 1) c2], slA 11 (.slice A2 (n + 1) c2) (n + 1) (bdsCs pre ++ x.cs)] := by
        unfold boxL
        rw [List.length_append, List.length_singleton, ← hn.out, bdsCs_append]
        rfl
      have O8 := Own.mk (boxL Qb (pre ++ [x])) (A2, c2) (by rw [e]; exact O7)
      exact (((O8.pull 1 rfl).drop).pull 2 rfl).pull 2 rfl
    case done =>
      intro D2 Wd O
      simp only [Exit.inBlock, Exit.then]
      refine hK2.out _ _ ?_
      clear hK2
      obtain ⟨⟨A6, c6⟩, O1⟩ := (O.pull 3 rfl).ex
      obtain ⟨⟨A7, c7⟩, O2⟩ := (Own.pull 5 O1 rfl).ex
      have hn9 := allT_length T
      generalize allT T = xs at *
      obtain ⟨n9, hn⟩ : ∃ n9, n9 = xs.length := ⟨_, rfl⟩
      have O3 : Own W Wd (cellsA Pb [.slice A7 n9 c7] :: slA 11 (.slice A7 n9 c7) n9 (bdsCs xs) :: cellsA Qb [.slice A6 n9 c6] :: slA 11 (.slice A6 n9 c6) n9 (bdsCs xs) :: rawA D2 (.deferred (some [])) :: storeA S2 T :: cellsA Fc [chP S2] :: storeA S1 T :: rawA D (.deferred (some [])) :: []) := by
        rw [hn]
        exact O2
      have hn6 : n9 ≤ 60 := by omega
      have kS := same_true Wd A7 A6 c7 c6 n9 xs hn (O3.sl 1 rfl) (O3.sl 3 rfl) (by omega)
      obtain ⟨lP, qP, _⟩ := O3.cells 0 rfl
      have p0 := qP 0 (by simp)
      obtain ⟨lQ, qQ, _⟩ := O3.cells 2 rfl
      have p1 := qQ 0 (by simp)
      simp only [List.getElem?_cons_zero] at p0 p1
      haveI : InW Pb Wd := ⟨lP⟩
      haveI : InW Qb Wd := ⟨lQ⟩
      replace kS := Lib.hid kS
      replace O3 := Lib.hid O3
      clear qP qQ lP lQ O O1 O2 hn hn9
      go_wp2_with (first
        | (go_at_call 16; (with_reducible refine kS.out.mono ?_); rintro e w' ⟨rfl, e7, rfl⟩)
        | (go_at_call 9; (with_reducible refine (awake_any _).mono ?_); rintro e w' ⟨rfl, e8, rfl⟩))
      have O9 := ((O3.out.plus e7).plus e8).pull 4 rfl
      have hK := O9.raw
      have O10 := ((O9.putRaw (.deferred none)).pull 8 rfl)
      have hK3 := O10.raw
      have O11 := O10.putRaw (.deferred none)
      refine ⟨by simp, .inl ⟨_, _, rfl, run_takeDeferred hK, ?_⟩⟩
      refine ⟨by simp, .inl ⟨_, _, rfl, run_takeDeferred hK3, ?_⟩⟩
      exact ⟨_, results_tmp rfl _ _ _, rfl, O11.p⟩
theorem slice_to (A : Option Addr) (m cp K : Nat) (h : K ≤ cp) (w : World) : (Instr.sliceAt 22 (.slice A m cp) none (some (nI K)) none).run Try.prog w = .ok (.slice A K cp) w := by
  have h0 : (0 : Int) ≤ K := Int.natCast_nonneg K
  have h2 : (K : Int) ≤ cp := by omega
  have hs : (sizeOf (Try.prog.elem 22)).run Try.prog w = .ok 13 w := by kernel_rfl
  have ht : Try.prog.underlying 22 = some (.slice (Try.prog.elem 22)) := by kernel_rfl
  rw [run_sliceAt_slice (h := ht), run_slice_h (ht := ht) (h0 := h0) (h2 := h2), hs]
  simp only [Result.andThen_ok, sliced, Int.toNat_natCast, Nat.zero_mul, Nat.sub_zero]
  have e : (A.map fun a => a.add 0) = A := by
    cases A with
    | none => rfl
    | some a => rfl
  rw [e, ite_self]
theorem slice_from (A : Option Addr) (m cp K : Nat) (h : K ≤ m) (w : World) : (Instr.sliceAt 22 (.slice A m cp) (some (nI K)) none none).run Try.prog w = .ok (.slice (if cp = K then A else A.map (·.add (K * 13))) (m - K) (cp - K)) w := by
  have h0 : (0 : Int) ≤ K := Int.natCast_nonneg K
  have h2 : (K : Int) ≤ m := by omega
  have hs : (sizeOf (Try.prog.elem 22)).run Try.prog w = .ok 13 w := by kernel_rfl
  have ht : Try.prog.underlying 22 = some (.slice (Try.prog.elem 22)) := by kernel_rfl
  rw [run_sliceAt_slice (h := ht), run_slice_l (ht := ht) (h0 := h0) (h1 := h2), hs]
  simp only [Result.andThen_ok, sliced, Int.toNat_natCast]
theorem bufferParts_any (W : World) (ds : List DdR) (A : Option Addr) (cp : Nat) (cut : Int) (hcut : (Lit.int .i64 cut).wf = true) (hc : ds.length ≤ cp) (hn : cp ≤ 9223372036854775807) (hr : RowsAt W A 13 ds.length (ddRow ds)) (hid : ∀ d ∈ ds, DdW d) :
    Calls Try.prog 3 #[.slice A ds.length cp, nI cut] W fun e w' => e = .returned (.bool true) ∧ W.Plus w' := by
  obtain ⟨m, hm⟩ : ∃ m, m = min ds.length 60 := ⟨_, rfl⟩
  have hmd : m ≤ ds.length := by omega
  obtain ⟨K, hK, hk⟩ : ∃ K : Nat, K ≤ m ∧ ((cut.tmod ((m : Int) + 1) + (m : Int) + 1).tmod ((m : Int) + 1)) = (K : Int) := by
    have hm1 : (0 : Int) < (m : Int) + 1 := Int.lt_add_one_of_le (Int.natCast_nonneg m)
    have h2 := Int.lt_tmod_of_pos cut hm1
    generalize cut.tmod ((m : Int) + 1) = ct at *
    have h3 := Int.tmod_nonneg (a := ct + m + 1) ((m : Int) + 1) (by omega)
    have h4 := Int.tmod_lt_of_pos (ct + m + 1) hm1
    generalize (ct + (m : Int) + 1).tmod ((m : Int) + 1) = z at *
    exact ⟨z.toNat, by omega, by omega⟩
  have hrm := rows_take hr hmd
  have h1 : RowsAt W A 13 K (ddRow ((ds.take m).take K)) := rows_take hrm hK
  refine parts_core W ds A cp cut (wf_i64 hcut) hc hn hr hid m K hm hK hk A _ cp _ (fun w => slice_to A m cp K (by omega) w) (fun w => slice_from A m cp K hK w) h1 ?_
  rcases Nat.lt_or_ge K m with hlt | hge
  · obtain ⟨g, o, rfl⟩ := rows_hA hrm (by omega)
    have h2 := rows_drop hrm hlt
    by_cases he : cp = K
    · omega
    · rw [if_neg he]
      show RowsAt W (some (Addr.add ⟨g, o, none⟩ (K * 13))) 13 (m - K) _
      rw [Addr.add_lit]
      exact h2
  · rw [show m - K = 0 by omega]
    exact rows_none
end Go.Proofs.Ytkdagljoiacaaaa
