/- ArchCopies: walk. -/
import Derived.Test.YtanbppejfhnjbaaArW
set_option linter.unusedSimpArgs false
set_option linter.unusedVariables false
namespace Go.Proofs.Ytanbppejfhnjbaa
open Go.RowKit
theorem idsCs_setL (l : List IdR) (i : Nat) (b : IdR) (h : i < l.length) : setL (idsCs l) (i * 3) b.cs = idsCs (l.set i b) := by
  induction l generalizing i with
  | nil => simp at h
  | cons r t ih =>
    have e : ∀ (r : IdR) (t : List IdR), idsCs (r :: t) = r.cs ++ idsCs t := fun _ _ => rfl
    cases i with
    | zero => rw [List.set_cons_zero, e, e]; rfl
    | succ i =>
      rw [List.set_cons_succ, e, e, ← ih i (by simpa using h), ← setL_append]
      congr 1
      show (i + 1) * 3 = 3 + i * 3
      omega
theorem tbCs_set (L : List (Ad × TbR)) (i : Nat) (x y : Ad × TbR) (h : L[i]? = some x) (h1 : y.1 = x.1) (h2 : y.2.1 = x.2.1) (h3 : y.2.2.length = x.2.2.length) : tbCs (L.set i y) = tbCs L := by
  unfold tbCs
  induction L generalizing i with
  | nil => rfl
  | cons r t ih =>
    cases i with
    | zero =>
      simp at h
      subst h
      rw [List.set_cons_zero, List.flatMap_cons, List.flatMap_cons, h1, h2, h3]
    | succ i => rw [List.set_cons_succ, List.flatMap_cons, List.flatMap_cons, ih i (by simpa using h)]
/-- a name of a table that is told, another one: what the walk asks, and what it leaves -/
theorem tbl_name {W w : World} {v : Value} {L : List (Ad × TbR)} {l : List Asn} (O : Own W w (tblL v L ++ l)) (i k : Nat) (x : Ad × TbR) (hx : L[i]? = some x) (hk : k < x.2.2.length) (e : IdR) :
    ∃ g o, x.1.1 = some ⟨g, o, none⟩ ∧ InW g w ∧ (∀ j, j < 3 → w.frozen? ⟨g, o + k * 3 + j, none⟩ = false) ∧
      Own W (w.setCells g (o + k * 3) e.cs) (tblL v (L.set i (x.1, (x.2.1, x.2.2.set k e))) ++ l) := by
  have hi := (List.getElem?_eq_some_iff.1 hx).1
  have h1 : Own W w (L.map idA ++ (slA 2 v L.length (tbCs L) :: l)) := (Own.rot1 O).both
  have hil : i < (L.map idA ++ (slA 2 v L.length (tbCs L) :: l)).length := by rw [List.length_append, List.length_map]; omega
  have h2 := h1.pull i (by rw [List.getElem?_append_left (by rw [List.length_map]; exact hi), List.getElem?_map, hx]; rfl)
  unfold idA at h2
  rcases (h2.sl 0 rfl).val with ⟨_, h0⟩ | ⟨g, o, cap, he, hg, hc, _, _, hf⟩
  · omega
  · simp only [Value.slice.injEq] at he
    refine ⟨g, o, he.1, ⟨hg⟩, fun j hj => ?_, ?_⟩
    · have := (hf (k * 3 + j) (by omega)).2
      rw [← Nat.add_assoc] at this
      exact this
    · rw [he.1] at h2
      have h3 := Own.setSlL e.cs h2 (k * 3) (by show k * 3 + 3 ≤ _; omega)
      rw [idsCs_setL _ _ _ hk] at h3
      have h4 := Own.push (P := idA (x.1, (x.2.1, x.2.2.set k e))) _ i hil (by
        unfold idA
        rw [List.length_set, he.1]
        exact h3)
      rw [List.set_append_left _ _ (by rw [List.length_map]; exact hi)] at h4
      have h5 := h4.join.rot1
      have e1 : (L.set i (x.1, (x.2.1, x.2.2.set k e))).map idA = (L.map idA).set i (idA (x.1, (x.2.1, x.2.2.set k e))) := by rw [List.map_set]
      unfold tblL
      rw [e1, List.length_set, tbCs_set L i x (x.1, (x.2.1, x.2.2.set k e)) hx rfl rfl (by show (x.2.2.set k e).length = _; rw [List.length_set])]
      exact h5
def runT2 (T : Tabs) (ds : List DeedR) : Tabs := ds.foldl stepT T
theorem runT2_snoc (T : Tabs) (ds : List DeedR) (x : DeedR) : runT2 T (ds ++ [x]) = stepT (runT2 T ds) x := by unfold runT2; rw [List.foldl_append]; rfl
theorem run_good2 {T : Tabs} (G : GoodT T) (ds : List DeedR) : GoodT (runT2 T ds) ∧ total (runT2 T ds) ≤ total T + ds.length := by
  refine snoc_ind (p := fun ds => GoodT (runT2 T ds) ∧ total (runT2 T ds) ≤ total T + ds.length) ⟨G, by show total T ≤ total T + 0; omega⟩ (fun l x ih => ?_) ds
  rw [runT2_snoc, List.length_append, List.length_singleton]
  have := total_stepT (runT2 T l) x
  exact ⟨good_stepT ih.1 x, by omega⟩
set_option maxRecDepth 1000000 in
set_option maxHeartbeats 400000 in
theorem archCopies_any (W : World) (ds es : List DeedR) (A B : Option Addr) (cp cq : Nat) (hc : ds.length ≤ cp) (hn : cp ≤ 9223372036854775807) (hr : RowsAt W A 12 ds.length (dRow ds)) (hid : ∀ d ∈ ds, IdW d.b.id)
    (hc2 : es.length ≤ cq) (hn2 : cq ≤ 9223372036854775807) (hr2 : RowsAt W B 12 es.length (dRow es)) (hid2 : ∀ d ∈ es, IdW d.b.id) :
    Calls Try.prog 9 #[.slice A ds.length cp, .slice B es.length cq] W fun e w' => e = .returned (.bool true) ∧ W.Plus w' := by
  have hz := refZero
  have k0 := Lib.hid (new_store (Own.start W))
  have kb := Lib.hid (ref_box W)
  obtain ⟨cs0, hcs0⟩ : ∃ cs0, cs0 = (rcellsL (fun _ => (none, 0)) (fun _ => [])).toArray := ⟨_, rfl⟩
  rw [← hcs0] at hz kb
  clear hcs0
  have kF := Lib.hid (fun w => few_any A ds.length cp w hc (by omega) (rows_hA hr))
  have kF2 := Lib.hid (fun w => few_any B es.length cq w hc2 (by omega) (rows_hA hr2))
  obtain ⟨m, hm⟩ : ∃ m, m = min ds.length 60 := ⟨_, rfl⟩
  obtain ⟨m2, hm2⟩ : ∃ m2, m2 = min es.length 60 := ⟨_, rfl⟩
  rw [← hm] at kF
  rw [← hm2] at kF2
  have hmb : m ≤ 60 ∧ m ≤ ds.length := by omega
  obtain ⟨hm60, hmd⟩ := hmb
  have hmb2 : m2 ≤ 60 ∧ m2 ≤ es.length := by omega
  obtain ⟨hm602, hmd2⟩ := hmb2
  replace hr := Lib.hid hr
  replace hid := Lib.hid hid
  replace hm := Lib.hid hm
  replace hr2 := Lib.hid hr2
  replace hid2 := Lib.hid hid2
  replace hm2 := Lib.hid hm2
  go_enter Try.func9, Try.ntmps9
  go_upto_region 3 with (first
    | (go_at_call 18; (with_reducible refine k0.out.mono ?_); rintro e w1 ⟨S, rfl, O1⟩; have OB := Lib.hid (kb.out _ _ O1); clear O1)
    | (go_at_call 20; (with_reducible refine (kF.out _).mono ?_); clear kF; rintro e w2 ⟨rfl, e2, rfl⟩)
    | (go_at_call 20; (with_reducible refine (kF2.out _).mono ?_); clear kF2; rintro e w2 ⟨rfl, e3, rfl⟩))
  have O1 : Own W (((w1.alloc (.cells cs0 50)).plus e2).plus e3) (storeA S (runT []) :: refA w1.heap.size (runT []) :: []) := ((OB.out.plus e2).plus e3).rot1
  generalize w1.heap.size = R at *
  generalize ((w1.alloc (.cells cs0 50)).plus e2).plus e3 = w3 at *
  clear OB k0 kb hz
  replace O1 := Lib.hid O1
  go_wp2_with fail
  go_loopw [7] (fun v wr => ∃ i : Nat, i ≤ m ∧ v = nI i ∧ Own W wr (storeA S (runT (ds.take i)) :: refA R (runT (ds.take i)) :: [])) (fun v _ => m - (intOf v).toNat)
  case atStart => exact ⟨0, by omega, rfl, O1.out⟩
  case round =>
    clear O1
    obtain ⟨i, hi, rfl, O2⟩ := hrel
    by_cases hlt : i < m
    · have hlti : (i : Int) < m := by omega
      obtain ⟨x, hx⟩ : ∃ x, ds[i]? = some x := ⟨_, List.getElem?_eq_getElem (by omega)⟩
      have hrw := hr.out.plus O2.p
      obtain ⟨g, o, rfl, hg, hD⟩ := deed_at hrw i (by omega) x hx
      obtain ⟨G, C, hT⟩ := run_good (ds.take i)
      rw [List.length_take] at hT
      have hidx := hid.out x (List.mem_of_getElem? hx)
      have k21 := Lib.hid (step_O O2 G G x hidx (by omega) (by omega))
      have e1 : runT (ds.take (i + 1)) = stepT (runT (ds.take i)) x := by rw [take_snoc hx, runT_snoc]
      rw [← e1] at k21
      obtain ⟨a0, a1, a2, a3, a4, a5, a6, a7, a8, a9, a10, a11⟩ := hD
      replace O2 := Lib.hid O2
      clear hrw hx hidx e1 G C hT
      go_wp2_with (go_at_call 21; (with_reducible refine k21.out.mono ?_); rintro e w5 ⟨v, hv, rfl, O5⟩; replace O5 := Lib.hid O5)
      go_roundw
      case rel => exact ⟨i + 1, hlt, by go_num, O5.out⟩
      case measure => simp [intOf]; omega
    · obtain rfl : i = m := by omega
      obtain ⟨G, Cl, hT⟩ := run_good (ds.take i)
      rw [List.length_take] at hT
      generalize runT (ds.take i) = T1 at *
      have hT6 : total T1 ≤ 60 := by omega
      clear hT
      replace G := Lib.hid G
      replace Cl := Lib.hid Cl
      replace O2 := Lib.hid O2
      go_upto_region 9 with (first
        | (go_at_call 29; (with_reducible refine (copy_O O2.out G.out Cl.out (by omega)).mono ?_); rintro e w5 ⟨C, rfl, O5⟩; have OC := Lib.hid (O5.pull 2 rfl); clear O5)
        | (go_at_call 30; (with_reducible refine (refCopy_O OC.out Cl.out (by omega)).mono ?_); rintro e w6 ⟨X, rfl, O6⟩; have OD := Lib.hid (O6.pull 3 rfl); clear O6)
        | (go_at_call 12; (with_reducible refine (tables_O OD.out (by omega)).mono ?_); rintro e w7 ⟨A7, c7, L, rfl, O7, hL⟩; replace hL := Lib.hid hL; replace O7 := Lib.hid O7))
      have hLb := tabs_ids hL.out (by omega)
      obtain ⟨hL32, hLi⟩ := hLb
      obtain ⟨n, hn⟩ : ∃ n, n = L.length := ⟨_, rfl⟩
      rw [← hn] at hL32
      have O8 : Own W w7 (tblL (.slice A7 n c7) L ++ [storeA S T1, refA X T1, refA R T1, storeA C T1]) := by rw [hn]; exact O7.out
      rw [← hn]
      replace hn := hn.symm
      replace O8 := Lib.hid O8
      replace hn := Lib.hid hn
      replace hLi := Lib.hid hLi
      clear O7 OD OC O2
      go_wp2_with fail
      go_loopw [11] (fun v wr => ∃ (j : Nat) (L : List (Ad × TbR)), j ≤ n ∧ v = nI j ∧ L.length = n ∧ (∀ x ∈ L, x.2.2.length ≤ 90000) ∧ Own W wr (tblL (.slice A7 n c7) L ++ [storeA S T1, refA X T1, refA R T1, storeA C T1])) (fun v _ => n - (intOf v).toNat)
      case atStart => exact ⟨0, L, by omega, rfl, hn.out, hLi.out, O8.out⟩
      case round =>
        clear O8 hLi hn hL
        obtain ⟨j, L1, hj, rfl, hn, hLi, O8⟩ := hrel
        rename World => wy
        by_cases hjt : j < n
        · have hjti : (j : Int) < n := by omega
          have hjd : decide (j < n) = true := decide_eq_true hjt
          obtain ⟨x, hx⟩ : ∃ x, L1[j]? = some x := ⟨_, List.getElem?_eq_getElem (by rw [hn]; exact hjt)⟩
          obtain ⟨q, hq⟩ : ∃ q, q = x.2.2.length := ⟨_, rfl⟩
          have hq9 : q ≤ 90000 := by rw [hq]; exact hLi x (List.mem_of_getElem? hx)
          have hx0 := Lib.hid (show ∃ x, L1[j]? = some x ∧ x.2.2.length = q from ⟨x, hx, hq.symm⟩)
          clear hx hq x
          replace hn := Lib.hid hn
          replace hLi := Lib.hid hLi
          replace O8 := Lib.hid O8
          go_wp2_with fail
          go_loopw [12] (fun v wz => ∃ (k : Nat) (L : List (Ad × TbR)), k ≤ q ∧ v = nI k ∧ L.length = n ∧ (∀ x ∈ L, x.2.2.length ≤ 90000) ∧ (∃ x, L[j]? = some x ∧ x.2.2.length = q) ∧ Own W wz (tblL (.slice A7 n c7) L ++ [storeA S T1, refA X T1, refA R T1, storeA C T1])) (fun v _ => q - (intOf v).toNat)
          case atStart => exact ⟨0, L1, by omega, rfl, hn.out, hLi.out, hx0.out, O8.out⟩
          case round =>
            clear O8 hLi hn hx0 L1
            obtain ⟨k, L1, hk, rfl, hn, hLi, ⟨x, hx, hxq⟩, O8⟩ := hrel
            rename World => wz
            have hrd : RdT wz A7 c7 L1 := tbl_rd (by rw [hn]; exact O8)
            obtain ⟨g, o, hA, hg, a0, a1⟩ := tb_cells hrd j x hx
            subst hA
            rw [hxq] at a1
            by_cases hkt : k < q
            · have hkti : (k : Int) < q := by omega
              have hkd : decide (k < q) = true := decide_eq_true hkt
              obtain ⟨e, he⟩ : ∃ e, x.2.2[k]? = some e := ⟨_, List.getElem?_eq_getElem (by rw [hxq]; exact hkt)⟩
              obtain ⟨g3, o3, hA3, hg3, d0, d1, d2⟩ := id_cells (hrd.ids j x hx) k e he (by rw [hxq]; exact hkt)
              obtain ⟨g4, o4, hA4, _, hf, O9⟩ := tbl_name O8 j k x hx (by rw [hxq]; exact hkt) ⟨-1, 0, 0⟩
              rw [hA3] at hA4
              cases hA4
              rw [hA3] at a1
              have f0 := hf 0 (by omega)
              have f1 := hf 1 (by omega)
              have f2 := hf 2 (by omega)
              rw [Nat.add_zero] at f0
              have hn5 := Lib.hid (show (L1.set j (x.1, (x.2.1, x.2.2.set k ⟨-1, 0, 0⟩))).length = n by rw [List.length_set]; exact hn)
              have hx5 := Lib.hid (show ∃ y, (L1.set j (x.1, (x.2.1, x.2.2.set k ⟨-1, 0, 0⟩)))[j]? = some y ∧ y.2.2.length = q from ⟨_, List.getElem?_set_self (by rw [hn]; exact hjt), by show (x.2.2.set k ⟨-1, 0, 0⟩).length = q; rw [List.length_set]; exact hxq⟩)
              have hL5 := Lib.hid (show ∀ y ∈ L1.set j (x.1, (x.2.1, x.2.2.set k ⟨-1, 0, 0⟩)), y.2.2.length ≤ 90000 from fun y hy => by
                rcases List.mem_or_eq_of_mem_set hy with h | h
                · exact hLi y h
                · rw [h]; show (x.2.2.set k ⟨-1, 0, 0⟩).length ≤ 90000; rw [List.length_set, hxq]; exact hq9)
              generalize L1.set j (x.1, (x.2.1, x.2.2.set k ⟨-1, 0, 0⟩)) = L5 at *
              replace O9 := Lib.hid O9
              clear hf hx hxq hrd hn hLi O8 he hA3
              go_wp2_with fail
              go_roundw
              case rel => exact ⟨k + 1, L5, hkt, by go_num, hn5.out, hL5.out, hx5.out, O9.out⟩
              case measure => simp [intOf]; omega
            · obtain rfl : k = q := by omega
              have hkd : decide (k < k) = false := by simp
              replace O8 := Lib.hid O8
              replace hn := Lib.hid hn
              replace hLi := Lib.hid hLi
              clear hx hxq hrd
              go_wp2_with fail
              go_roundw
              case rel => exact ⟨j + 1, L1, hjt, by go_num, hn.out, hLi.out, O8.out⟩
              case measure => simp [intOf]; omega
        · obtain rfl : j = n := by omega
          have O9 : Own W wy (storeA C T1 :: refA X T1 :: storeA S T1 :: refA R T1 :: []) := ((O8.drop.drop.pull 3 rfl).pull 2 rfl).rot1
          have k22 := Lib.hid (fun wz C X (l : List Asn) (O : Own W wz (storeA C T1 :: refA X T1 :: l)) => alike_O O G.out (by omega))
          replace O9 := Lib.hid O9
          clear O8 hLi hn
          go_upto_region 18 with (go_at_call 22; (with_reducible refine (k22.out _ _ _ _ O9.out).mono ?_); rintro e w9 ⟨rfl, O10⟩; replace O10 := Lib.hid O10)
          clear O9
          go_wp2_with fail
          go_loopw [13] (fun v wr => ∃ i : Nat, i ≤ m2 ∧ v = nI i ∧ Own W wr (storeA C (runT2 T1 (es.take i)) :: refA X (runT2 T1 (es.take i)) :: storeA S T1 :: refA R T1 :: [])) (fun v _ => m2 - (intOf v).toNat)
          case atStart => exact ⟨0, by omega, rfl, O10.out⟩
          case round =>
            clear O10
            obtain ⟨p, hp, rfl, O2⟩ := hrel
            rename World => wv
            obtain ⟨G2, hT2⟩ := run_good2 G.out (es.take p)
            rw [List.length_take] at hT2
            by_cases hlt : p < m2
            · have hlti : (p : Int) < m2 := by omega
              have hpd : decide (p < m2) = true := decide_eq_true hlt
              obtain ⟨x, hx⟩ : ∃ x, es[p]? = some x := ⟨_, List.getElem?_eq_getElem (by omega)⟩
              have hrw := hr2.out.plus O2.p
              obtain ⟨g, o, rfl, hg, hD⟩ := deed_at hrw p (by omega) x hx
              have hidx := hid2.out x (List.mem_of_getElem? hx)
              have k21 := Lib.hid (step_O O2 G2 G2 x hidx (by omega) (by omega))
              have e1 : runT2 T1 (es.take (p + 1)) = stepT (runT2 T1 (es.take p)) x := by rw [take_snoc hx, runT2_snoc]
              rw [← e1] at k21
              obtain ⟨a0, a1, a2, a3, a4, a5, a6, a7, a8, a9, a10, a11⟩ := hD
              replace O2 := Lib.hid O2
              clear hrw hx hidx e1 G2 hT2
              go_wp2_with (go_at_call 21; (with_reducible refine k21.out.mono ?_); rintro e w5 ⟨v, hv, rfl, O5⟩; obtain rfl : v = true := hv rfl; replace O5 := Lib.hid O5; clear hv)
              go_roundw
              case rel => exact ⟨p + 1, hlt, by go_num, O5.out⟩
              case measure => simp [intOf]; omega
            · obtain rfl : p = m2 := by omega
              have hpd : decide (p < p) = false := by simp
              have k23 := Lib.hid (fun wz (O : Own W wz (storeA C (runT2 T1 (es.take p)) :: refA X (runT2 T1 (es.take p)) :: storeA S T1 :: refA R T1 :: [])) => alike_O O G2 (by omega))
              generalize runT2 T1 (es.take p) = T2 at *
              have O3 : Own W wv (storeA S T1 :: refA R T1 :: storeA C T2 :: refA X T2 :: []) := (O2.pull 3 rfl).pull 3 rfl
              replace O3 := Lib.hid O3
              clear O2 G2 hT2
              go_wp2_with (first
                | (go_at_call 22; (with_reducible refine (k22.out _ _ _ _ O3.out).mono ?_); clear k22; rintro e w9 ⟨rfl, O10⟩; have O11 := Lib.hid ((O10.pull 3 rfl).pull 3 rfl); clear O10)
                | (go_at_call 22; (with_reducible refine (k23.out _ O11.out).mono ?_); clear k23; rintro e w8 ⟨rfl, O12⟩)
                | (go_at_call 17; (with_reducible refine (awake_any _).mono ?_); rintro e w' ⟨rfl, e9, rfl⟩))
              go_ret
              exact ⟨rfl, Plus.plus O12.p e9⟩
end Go.Proofs.Ytanbppejfhnjbaa
