/- ArchWrites: plain laws. -/
import Derived.Test.YtanbppejfhnjbaaArW
set_option linter.unusedSimpArgs false
set_option linter.unusedVariables false
namespace Go.Proofs.Ytanbppejfhnjbaa
open Go.RowKit
theorem writeS_else {T : Tabs} {b : BdR} (h : (writeS T b).2 ≠ 0) : (writeS T b).1 = T ∧ ((writeS T b).2 = 1 ↔ okB b = false) ∧ ((writeS T b).2 = 1 ∨ (findT T b.id) = none) := by
  unfold writeS at *
  by_cases hb : okB b = true
  · rw [if_pos hb] at *
    cases hf : findT T b.id with
    | none => rw [hf] at *; exact ⟨rfl, by simp [hb], .inr rfl⟩
    | some p =>
      obtain ⟨m, i⟩ := p
      rw [hf] at h
      simp only at h
      split at h <;> exact absurd rfl h
  · rw [if_neg hb]
    exact ⟨rfl, by simpa using hb, .inl rfl⟩
/-- what is there behind a write -/
theorem writeS_get {T : Tabs} (hg : GoodT T) {b : BdR} (h : (writeS T b).2 = 0) :
    (findT T b.id).isSome = true ∧ total (writeS T b).1 = total T ∧ ∀ c, c ∈ allT T → (findT (writeS T b).1 c.id).isSome = true ∧ getS (writeS T b).1 c.id = if c.id = b.id then b else c := by
  unfold writeS at *
  by_cases hb : okB b = true
  · rw [if_pos hb] at *
    cases hf : findT T b.id with
    | none => rw [hf] at h; simp at h
    | some p =>
      obtain ⟨m, i⟩ := p
      simp only
      obtain ⟨hm, o, ho, hoid⟩ := findT_some hf
      have hil := (List.getElem?_eq_some_iff.1 ho).1
      by_cases hmask : (m : Int) = b.mask
      · rw [if_pos hmask]
        simp only
        refine ⟨rfl, total_set T m i b hm, fun c hc => ?_⟩
        obtain ⟨m', i', hm', hc', hfc⟩ := all_find hg c hc
        have e := find_set hg ho hoid hb hmask.symm c.id
        refine ⟨by rw [e, hfc]; rfl, ?_⟩
        unfold getS
        rw [e, hfc]
        simp only
        rw [List.getD_eq_getElem?_getD, set_get]
        by_cases hid : c.id = b.id
        · rw [if_pos hid]
          obtain ⟨rfl, rfl⟩ := hg.uniq m' i' m i c o hm' hm hc' ho (hid.trans hoid.symm)
          rw [if_pos ⟨rfl, rfl, hil⟩]
          rfl
        · rw [if_neg hid, if_neg (fun k => hid (by
            obtain ⟨rfl, rfl, _⟩ := k
            rw [ho] at hc'
            cases hc'
            exact hoid))]
          rw [hc']
          rfl
      · rw [if_neg hmask]
        simp only
        have hgc := good_cut hg m i
        have hfn := find_cut_self hg hf
        have hct := cut_total hf
        refine ⟨rfl, by rw [total_put _ b hb]; omega, fun c hc => ?_⟩
        obtain ⟨m', i', hm', hc', hfc⟩ := all_find hg c hc
        obtain ⟨hbm, hbmk⟩ := okB_mk hb
        have e := find_put hgc hb hfn c.id
        by_cases hid : c.id = b.id
        · rw [if_pos hid] at e ⊢
          refine ⟨by rw [e]; rfl, ?_⟩
          unfold getS
          rw [e]
          simp only
          unfold putT
          rw [upd_at, List.getD_eq_getElem?_getD, List.getElem?_append_right (Nat.le_refl _)]
          simp
        · rw [if_neg hid] at e ⊢
          have hbrow : (T m)[(T m).length - 1]? = some (T m)[(T m).length - 1] := List.getElem?_eq_getElem (by omega)
          have e2 := find_cut hg hm ho hbrow c.id
          rw [if_neg (fun k => hid (k.trans hoid))] at e2
          have hgood := good_put hgc hb hfn
          have hget : ∀ m2 i2, findT (cutT T m i) c.id = some (m2, i2) → (findT (putT (cutT T m i) b) c.id).isSome = true ∧ ((cutT T m i) m2)[i2]? = some c → getS (putT (cutT T m i) b) c.id = c := by
            intro m2 i2 h2 ⟨_, h3⟩
            unfold getS
            rw [e, h2]
            simp only
            unfold putT upd
            by_cases hmm : m2 = b.mask.toNat
            · rw [if_pos hmm, List.getD_eq_getElem?_getD, List.getElem?_append_left (by rw [← hmm]; exact (List.getElem?_eq_some_iff.1 h3).1), ← hmm, h3]
              rfl
            · rw [if_neg hmm, List.getD_eq_getElem?_getD, h3]
              rfl
          have hex : ∃ m2 i2, findT (cutT T m i) c.id = some (m2, i2) ∧ ((cutT T m i) m2)[i2]? = some c := by
            by_cases hz : c.id = (T m)[(T m).length - 1].id
            · rw [if_pos hz] at e2
              refine ⟨m, i, e2, ?_⟩
              obtain ⟨rfl, rfl⟩ := hg.uniq m' i' m _ c _ hm' hm hc' hbrow hz
              have hne : i ≠ (T m').length - 1 := fun k => hid (by
                rw [k, hc'] at ho
                cases ho
                exact hoid)
              rw [cutT_get, if_pos rfl, if_pos (by omega), if_pos rfl]
              exact hc'
            · rw [if_neg hz, hfc] at e2
              refine ⟨m', i', e2, ?_⟩
              rw [cutT_get]
              by_cases hmm : m' = m
              · subst hmm
                have hne : i' ≠ (T m').length - 1 := fun k => hz (by rw [k, hbrow] at hc'; cases hc'; rfl)
                have hi' := (List.getElem?_eq_some_iff.1 hc').1
                have hni : i' ≠ i := fun k => hid (by rw [k, ho] at hc'; cases hc'; exact hoid)
                rw [if_pos rfl, if_pos (by omega), if_neg hni]
                exact hc'
              · rw [if_neg hmm]
                exact hc'
          obtain ⟨m2, i2, h2, h3⟩ := hex
          have h4 : (findT (putT (cutT T m i) b) c.id).isSome = true := by rw [e, h2]; rfl
          exact ⟨h4, hget m2 i2 h2 ⟨h4, h3⟩⟩
  · rw [if_neg hb] at h; simp at h
/-- with the same mask no table changes -/
theorem writeS_tabs {T : Tabs} (hg : GoodT T) {b : BdR} (h : (writeS T b).2 = 0) (hm : (getS T b.id).mask = b.mask) : tabsN (writeS T b).1 32 = tabsN T 32 := by
  unfold writeS at *
  by_cases hb : okB b = true
  · rw [if_pos hb] at *
    cases hf : findT T b.id with
    | none => simp [hf] at h
    | some p =>
      obtain ⟨m, i⟩ := p
      simp only
      obtain ⟨hm32, o, ho, hoid⟩ := findT_some hf
      have hgo : getS T b.id = o := by
        unfold getS
        rw [hf]
        simp only
        rw [List.getD_eq_getElem?_getD, ho]
        rfl
      have hom := (hg.ok m hm32 o (List.mem_of_getElem? ho)).2
      rw [hgo, hom] at hm
      rw [if_pos hm]
      simp only
      unfold tabsN
      apply congrArg List.flatten
      apply List.map_congr_left
      intro k _
      unfold setT upd
      by_cases e : k = m
      · subst e
        rw [if_pos rfl, List.length_set]
        have : ((T k).set i b).map (·.id) = (T k).map (·.id) := by
          rw [List.map_set]
          apply List.ext_getElem?
          intro j
          rw [List.getElem?_set]
          split
          · rename_i e2
            subst e2
            have := (List.getElem?_eq_some_iff.1 ho).1
            rw [if_pos (by simpa using this), List.getElem?_map, ho]
            simp [hoid]
          · rfl
        rw [this]
      · rw [if_neg e]
  · rw [if_neg hb] at h; simp at h
set_option maxRecDepth 100000 in
set_option maxHeartbeats 400000 in
theorem archWrites_any (W : World) (ds : List DeedR) (A : Option Addr) (cp : Nat) (b : BdR) (hb : IdW b.id) (hc : ds.length ≤ cp) (hn : cp ≤ 9223372036854775807) (hr : RowsAt W A 12 ds.length (dRow ds)) (hid : ∀ d ∈ ds, IdW d.b.id) :
    Calls Try.prog 6 #[.slice A ds.length cp, b.v] W fun e w' => e = .returned (.bool true) ∧ W.Plus w' := by
  have O0 : Own W (W.alloc (.cells #[nI b.id.s, nI b.id.i, nI b.id.g, nI b.mask, nI b.x, nI b.y, nI b.vx, nI b.vy, nI b.hp, nI b.pw, nI b.lf] 33)) (cellsA W.heap.size b.cs :: []) := Own.newCells (Own.start W) b.cs 33
  have k1 := Lib.hid (made_O O0 ds A cp hc hn hr hid)
  obtain ⟨G, C, hT⟩ := run_good (ds.take 60)
  rw [List.length_take] at hT
  generalize runT (ds.take 60) = T at *
  have hT6 : total T ≤ 60 := by omega
  have hal := allT_length T
  clear hr hid hc hn hT C
  have hW0 : SizeN (W.alloc (.cells #[nI b.id.s, nI b.id.i, nI b.id.g, nI b.mask, nI b.x, nI b.y, nI b.vx, nI b.vy, nI b.hp, nI b.pw, nI b.lf] 33)) (W.heap.size + 1) := inferInstance
  generalize hX : W.heap.size = X at *
  generalize hwy : W.alloc (.cells #[nI b.id.s, nI b.id.i, nI b.id.g, nI b.mask, nI b.x, nI b.y, nI b.vx, nI b.vy, nI b.hp, nI b.pw, nI b.lf] 33) = wy at *
  have k24 : RowKit.Hid (∀ (S : Nat) (T : Tabs) (l2 : List Asn) (wz : World), GoodT T → total T ≤ 60 → Own W wz (storeA S T :: l2) → Calls Try.prog 24 #[chP S, nI 10000] wz fun e w' => ∃ A c, e = .returned (.slice A (allT T).length c) ∧ Own W w' (slA 11 (.slice A (allT T).length c) (allT T).length (bdsCs (allT T)) :: storeA S T :: l2)) := Lib.hid (fun S T l2 wz G h6 O => (lall_O O G (by omega) 10000 (by omega)).mono (by
    rintro e w' ⟨A, c, q, hq, rfl, O9⟩
    have h2 : (allT T).take 10000 = allT T := List.take_of_length_le (by rw [allT_length]; omega)
    obtain rfl : q = allT T := Eq.trans hq h2
    exact ⟨A, c, rfl, O9⟩))
  have kW := Lib.hid (fun S (l2 : List Asn) wz (O : Own W wz (storeA S T :: l2)) => write_O O G b (by omega))
  have kG := Lib.hid (fun S (l2 : List Asn) wz (O : Own W wz (storeA S T :: l2)) => get_store O G b.id hb (by omega))
  have hhyp := hX
  clear O0
  obtain ⟨z, hz⟩ : ∃ z, z = (writeS T b).2 := ⟨_, rfl⟩
  obtain ⟨T2, hT2⟩ : ∃ T2, T2 = (writeS T b).1 := ⟨_, rfl⟩
  rw [← hz, ← hT2] at kW
  obtain ⟨th, hth⟩ : ∃ th, th = (findT T b.id).isSome := ⟨_, rfl⟩
  obtain ⟨ob, hob⟩ : ∃ ob, ob = getS T b.id := ⟨_, rfl⟩
  rw [← hth, ← hob] at kG
  replace hz := Lib.hid hz
  replace hT2 := Lib.hid hT2
  replace hth := Lib.hid hth
  replace hob := Lib.hid hob
  replace G := Lib.hid G
  obtain ⟨n, hn⟩ : ∃ n, n = (allT T).length := ⟨_, rfl⟩
  have hn60 : n ≤ 60 := by omega
  replace hal := Lib.hid hal
  go_enter Try.func6, Try.ntmps6
  go_upto_region 3 with (first
    | (go_at_call 11; (with_reducible refine k1.out.mono ?_); rintro e w1 ⟨S, rfl, O1⟩; replace O1 := Lib.hid O1)
    | (go_at_call 24; (with_reducible refine (k24.out _ _ _ _ G.out hT6 O1.out).mono ?_); rintro e w2 ⟨A2, c2, rfl, O2⟩; have O2s := Lib.hid (O2.pull 1 rfl); clear O2)
    | (go_at_call 12; (with_reducible refine (tables_O O2s.out (by omega)).mono ?_); rintro e w3 ⟨A3, c3, L, rfl, O3, hL⟩; replace hL := Lib.hid hL; have O3s := Lib.hid (O3.pull 2 rfl); clear O3))
  obtain ⟨hInq, q0, q1, q2, q3, q4, q5, q6, q7, q8, q9, q10⟩ := boxAt (b := b) 4 O3s.out rfl
  replace kG := Lib.hid (kG.out S _ w3 O3s.out)
  go_upto_region 4 with (go_at_call 13; (with_reducible refine kG.out.mono ?_); rintro e w' ⟨rfl, e1, rfl⟩)
  have O4 : Own W ((w3.plus e1).alloc (.cells #[nI ob.id.s, nI ob.id.i, nI ob.id.g, nI ob.mask, nI ob.x, nI ob.y, nI ob.vx, nI ob.vy, nI ob.hp, nI ob.pw, nI ob.lf] 33)) (storeA S T :: cellsA (w3.heap.size + e1.objs.size) ob.cs :: tblL (.slice A3 L.length c3) L ++ [slA 11 (.slice A2 (allT T).length c2) (allT T).length (bdsCs (allT T)), cellsA X b.cs]) := by
    have := ((O3s.out.plus e1).newCells ob.cs 33).rot1
    rw [World.size_plus_eq] at this
    exact this
  generalize w3.heap.size + e1.objs.size = Y at *
  obtain ⟨w4, hw4⟩ : ∃ w4, (w3.plus e1).alloc (.cells #[nI ob.id.s, nI ob.id.i, nI ob.id.g, nI ob.mask, nI ob.x, nI ob.y, nI ob.vx, nI ob.vy, nI ob.hp, nI ob.pw, nI ob.lf] 33) = w4 := ⟨_, rfl⟩
  rw [hw4] at O4 ⊢
  clear hw4 kG O3s k1 O1 O2s hInq q0 q1 q2 q3 q4 q5 q6 q7 q8 q9 q10 hW0
  obtain ⟨hInq, q0, q1, q2, q3, q4, q5, q6, q7, q8, q9, q10⟩ := boxAt (b := b) 5 O4 rfl
  replace kW := Lib.hid (kW.out S _ w4 O4)
  replace O4 := Lib.hid O4
  go_upto_region 5 with (go_at_call 25; (with_reducible refine kW.out.mono ?_); rintro e w5 ⟨rfl, O5⟩)
  clear kW O4 hInq q0 q1 q2 q3 q4 q5 q6 q7 q8 q9 q10
  obtain ⟨hInq, q0, q1, q2, q3, q4, q5, q6, q7, q8, q9, q10⟩ := boxAt (b := b) 5 O5 rfl
  obtain ⟨xs, hxs⟩ : ∃ xs, xs = allT T := ⟨_, rfl⟩
  have O6 : Own W w5 (storeA S T2 :: cellsA Y ob.cs :: slA 2 (.slice A3 L.length c3) L.length (tbCs L) :: bothA (L.map idA) :: slA 11 (.slice A2 n c2) n (bdsCs xs) :: cellsA X b.cs :: []) := by
    rw [hn, hxs]
    exact O5
  have hnx : n = xs.length := by rw [hxs]; exact hn
  rw [← hn]
  have hal2 := Lib.hid (hn.trans hal.out)
  clear O5 hn hal
  by_cases hz0 : z = 0
  · obtain ⟨f1, f2, f3⟩ := writeS_get G.out (b := b) (by rw [← hz.out]; exact hz0)
    have hG2 : GoodT T2 := by rw [hT2.out]; exact good_writeS G.out b
    rw [← hT2.out] at f2 f3
    rw [← hth.out] at f1
    have ht2 : total T2 = n := f2.trans hal2.out.symm
    have htabs : ob.mask = b.mask → tabsN T2 32 = tabsN T 32 := fun hm => by
      rw [hT2.out]
      exact writeS_tabs G.out (by rw [← hz.out]; exact hz0) (by rw [← hob.out]; exact hm)
    clear f2
    subst hz0
    subst f1
    have kL := Lib.hid (by have := len_store O6; rw [ht2] at this; exact this)
    have kA := Lib.hid (Own.atP O6)
    replace f3 := Lib.hid f3
    replace hG2 := Lib.hid hG2
    replace htabs := Lib.hid htabs
    replace hxs := Lib.hid hxs
    replace hnx := Lib.hid hnx
    replace O6 := Lib.hid O6
    clear hz hth k24
    go_upto_region 9 with (go_at_call 16; (with_reducible refine kL.out.mono ?_); rintro e w' ⟨rfl, e5, rfl⟩)
    have O7 := Lib.hid (kA.out _ (Plus.plus (Plus.refl w5) e5))
    have hp5 : w5.Plus (w5.plus e5) := Plus.plus (Plus.refl w5) e5
    generalize w5.plus e5 = w6 at *
    clear q0 q1 q2 q3 q4 q5 q6 q7 q8 q9 q10 hInq kL
    go_wp2_with fail
    go_loopw [11] (fun v wr => ∃ i : Nat, i ≤ n ∧ v = nI i ∧ w5.Plus wr) (fun v _ => n - (intOf v).toNat)
    case atStart => exact ⟨0, by omega, rfl, hp5⟩
    case round =>
      clear O7 hp5
      obtain ⟨i, hi, rfl, hp⟩ := hrel
      have O8 := kA.out _ hp
      obtain ⟨hInq, q0, q1, q2, q3, q4, q5, q6, q7, q8, q9, q10⟩ := boxAt (b := b) 5 O8 rfl
      by_cases hlt : i < n
      · have hlti : (i : Int) < n := by omega
        obtain ⟨c, hcx⟩ : ∃ c, xs[i]? = some c := ⟨_, List.getElem?_eq_getElem (by rw [← hnx.out]; exact hlt)⟩
        have hca : c ∈ allT T := by rw [← hxs.out]; exact List.mem_of_getElem? hcx
        obtain ⟨g1, g2⟩ := f3.out c hca
        obtain ⟨m1, i1, hm1, hc1, _⟩ := all_find G.out c hca
        have hcid := okB_id (G.out.ok m1 hm1 c (List.mem_of_getElem? hc1)).1
        obtain ⟨g, o, hA2, hgw, hX⟩ := sl_bd (O8.sl 4 rfl) i c hcx hlt
        obtain ⟨a0, a1, a2, a3, a4, a5, a6, a7, a8, a9, a10⟩ := hX
        subst hA2
        have kG := fun w' (p : wr.Plus w') => get_store (kA.out _ (Plus.trans hp p)) hG2.out c.id hcid (by rw [ht2]; omega)
        rw [g1, g2] at kG
        have heq := eqId3 c.id.s c.id.i c.id.g b.id.s b.id.i b.id.g
        clear hcx hca g1 g2 hc1 hcid hm1
        replace hp := Lib.hid hp
        replace O8 := Lib.hid O8
        by_cases hid : c.id = b.id
        · rw [if_pos hid] at kG
          rw [decide_eq_true (show (⟨c.id.s, c.id.i, c.id.g⟩ : IdR) = ⟨b.id.s, b.id.i, b.id.g⟩ from hid)] at heq
          have hnb := neqBd b b
          rw [decide_eq_true rfl] at hnb
          replace hid := Lib.hid hid
          replace kG := Lib.hid kG
          go_upto_region 16 with (go_at_call 13; (with_reducible refine (kG.out _ (by (repeat (first | exact Plus.refl _ | apply Plus.plus | apply Plus.alloc | apply Plus.drew)))).mono ?_); rintro e w' ⟨rfl, e6, rfl⟩)
          go_wp2_with fail
          go_roundw
          case rel => exact ⟨i + 1, hlt, by go_num, Plus.trans hp.out (by (repeat (first | exact Plus.refl _ | apply Plus.plus | apply Plus.alloc | apply Plus.drew)))⟩
          case measure => simp [intOf]; omega
        · rw [if_neg hid] at kG
          rw [decide_eq_false (show ¬ (⟨c.id.s, c.id.i, c.id.g⟩ : IdR) = ⟨b.id.s, b.id.i, b.id.g⟩ from hid)] at heq
          have hnb := neqBd c c
          rw [decide_eq_true rfl] at hnb
          replace hid := Lib.hid hid
          replace kG := Lib.hid kG
          go_upto_region 16 with (go_at_call 13; (with_reducible refine (kG.out _ (by (repeat (first | exact Plus.refl _ | apply Plus.plus | apply Plus.alloc | apply Plus.drew)))).mono ?_); rintro e w' ⟨rfl, e6, rfl⟩)
          go_wp2_with fail
          go_roundw
          case rel => exact ⟨i + 1, hlt, by go_num, Plus.trans hp.out (by (repeat (first | exact Plus.refl _ | apply Plus.plus | apply Plus.alloc | apply Plus.drew)))⟩
          case measure => simp [intOf]; omega
      · obtain rfl : i = n := by omega
        obtain ⟨hInr, r0, r1, r2, r3, r4, r5, r6, r7, r8, r9, r10⟩ := boxAt (b := ob) 1 O8 rfl
        have hpw := Lib.hid O8.p
        by_cases hm : ob.mask = b.mask
        · have hne : (ob.mask != b.mask) = false := by rw [hm]; simp
          have k12 := Lib.hid (tables_O O8 (by omega))
          have hLK := htabs.out hm
          replace hLK := Lib.hid hLK
          replace hm := Lib.hid hm
          replace O8 := Lib.hid O8
          go_wp2_with (first
            | (go_at_call 12; (with_reducible refine k12.out.mono ?_); rintro e w9 ⟨A9, c9, K, rfl, O9, hK⟩; have hKL := Eq.trans (Eq.trans hK hLK.out) (Eq.symm hL.out); have rK := (tbl_rd O9 : RdT w9 A9 c9 K); have rL := (tbl_rd ((O9.pull 5 rfl).pull 5 rfl) : RdT w9 A3 c3 L); have k27 := Lib.hid (sameTables_true2 w9 A9 A3 c9 c3 K L rK rL hKL (tabs_ids (T := T2) hK (by omega))); clear rK rL hKL; replace hK := Lib.hid hK; replace O9 := Lib.hid O9.p)
            | (go_at_call 27; (with_reducible refine k27.out.mono ?_); rintro e w' ⟨rfl, e8, rfl⟩)
            | (go_at_call 17; (with_reducible refine (awake_any _).mono ?_); rintro e w' ⟨rfl, e9, rfl⟩))
          go_ret
          exact ⟨rfl, Plus.plus (Plus.plus O9.out e8) e9⟩
        · have hne : (ob.mask != b.mask) = true := by simpa using hm
          replace hm := Lib.hid hm
          replace O8 := Lib.hid O8
          go_wp2_with (go_at_call 17; (with_reducible refine (awake_any _).mono ?_); rintro e w' ⟨rfl, e9, rfl⟩)
          go_ret
          exact ⟨rfl, Plus.plus hpw.out e9⟩
  · obtain ⟨e1', e2', e3'⟩ := writeS_else (T := T) (b := b) (by rw [← hz.out]; exact hz0)
    rw [← hT2.out] at e1'
    rw [← hz.out] at e2' e3'
    rw [e1'] at O6
    have hzb : (z != 0) = true := by simpa using hz0
    have kM := Lib.hid (fun w' => may_any b w')
    have kQ := fun wz (p : w5.Plus wz) => k24.out S T _ wz G.out hT6 (Own.atP O6 wz p)
    rw [← hxs, ← hnx] at kQ
    replace kQ := Lib.hid kQ
    replace hxs := Lib.hid hxs
    replace hnx := Lib.hid hnx
    clear O6 e1' k24
    by_cases hz1 : z = 1
    · have hob2 := e2'.1 hz1
      rw [hob2] at kM
      clear e2' e3' hob2 hz0
      subst hz1
      go_wp2_with (first
        | (go_at_call 15; (with_reducible refine (kM.out _).mono ?_); rintro e w' ⟨rfl, e5, rfl⟩)
        | (go_at_call 24; (with_reducible refine (kQ.out _ (by (repeat (first | exact Plus.refl _ | apply Plus.plus | apply Plus.alloc | apply Plus.drew)))).mono ?_); rintro e w6 ⟨A6, c6, rfl, O7⟩; have k26 := Lib.hid (same_true w6 A6 A2 c6 c2 n _ hnx.out (O7.sl 0 rfl) (O7.sl 5 rfl) (by omega)); replace O7 := Lib.hid O7.p)
        | (go_at_call 26; (with_reducible refine k26.out.mono ?_); rintro e w' ⟨rfl, e8, rfl⟩)
        | (go_at_call 17; (with_reducible refine (awake_any _).mono ?_); rintro e w' ⟨rfl, e9, rfl⟩))
      go_ret
      exact ⟨rfl, Plus.plus (Plus.plus O7.out e8) e9⟩
    · have hob2 : okB b = true := by
        cases hk : okB b with
        | true => rfl
        | false => exact absurd (e2'.2 hk) hz1
      have hno := e3'.resolve_left hz1
      have hthf : th = false := by rw [hth.out, hno]; rfl
      rw [hob2] at kM
      have hzb1 : (z == 1) = false := by simpa using hz1
      clear e2' e3' hob2 hno hth hz
      subst hthf
      replace hz0 := Lib.hid hz0
      replace hz1 := Lib.hid hz1
      go_wp2_with (first
        | (go_at_call 15; (with_reducible refine (kM.out _).mono ?_); rintro e w' ⟨rfl, e5, rfl⟩)
        | (go_at_call 24; (with_reducible refine (kQ.out _ (by (repeat (first | exact Plus.refl _ | apply Plus.plus | apply Plus.alloc | apply Plus.drew)))).mono ?_); rintro e w6 ⟨A6, c6, rfl, O7⟩; have k26 := Lib.hid (same_true w6 A6 A2 c6 c2 n _ hnx.out (O7.sl 0 rfl) (O7.sl 5 rfl) (by omega)); replace O7 := Lib.hid O7.p)
        | (go_at_call 26; (with_reducible refine k26.out.mono ?_); rintro e w' ⟨rfl, e8, rfl⟩)
        | (go_at_call 17; (with_reducible refine (awake_any _).mono ?_); rintro e w' ⟨rfl, e9, rfl⟩))
      go_ret
      exact ⟨rfl, Plus.plus (Plus.plus O7.out e8) e9⟩
end Go.Proofs.Ytanbppejfhnjbaa
