/- ArchOrder: walk. -/
import Derived.Test.YtanbppejfhnjbaaArW
set_option linter.unusedSimpArgs false
set_option linter.unusedVariables false
namespace Go.Proofs.Ytanbppejfhnjbaa
open Go.RowKit
def bRow (ds : List BdR) (i j : Nat) : Value := (ds.getD i bd0).cs.getD j (.bool false)
theorem bd_at {w : World} {A : Option Addr} {n : Nat} {ds : List BdR} (h : RowsAt w A 11 n (bRow ds)) (k : Nat) (hk : k < n) (x : BdR) (hx : ds[k]? = some x) : ∃ g o, A = some ⟨g, o, none⟩ ∧ InW g w ∧ Bd11 w g (o + k * 11) x := by
  obtain ⟨g, o, rfl, hl, hc⟩ := h (by omega)
  have key : ∀ j, j < 11 → w.cell? ⟨g, o + k * 11 + j, none⟩ = x.cs[j]? := fun j hj => by
    rw [Nat.add_assoc, hc k j hk hj]
    unfold bRow
    have e : ds.getD k bd0 = x := by rw [List.getD_eq_getElem?_getD, hx]; rfl
    rw [e]
    have h11 : x.cs.length = 11 := rfl
    rw [List.getD_eq_getElem?_getD, List.getElem?_eq_getElem (by rw [h11]; exact hj)]
    rfl
  exact ⟨g, o, rfl, ⟨hl⟩, key 0 (by omega), key 1 (by omega), key 2 (by omega), key 3 (by omega), key 4 (by omega), key 5 (by omega), key 6 (by omega), key 7 (by omega), key 8 (by omega), key 9 (by omega), key 10 (by omega)⟩
/-- those that are put -/
def ordP (l : List BdR) : List BdR := l.foldl (fun P b => if (putS (addAll P) b).2 = 0 then P ++ [b] else P) []
theorem ordP_snoc (l : List BdR) (b : BdR) : ordP (l ++ [b]) = if (putS (addAll (ordP l)) b).2 = 0 then ordP l ++ [b] else ordP l := by unfold ordP; rw [List.foldl_append]; rfl
theorem putS_zero {T : Tabs} {b : BdR} (h : (putS T b).2 = 0) : okB b = true ∧ findT T b.id = none ∧ (putS T b).1 = putT T b := by
  unfold putS at *
  by_cases hb : okB b = true
  · rw [if_pos hb] at *
    cases hf : findT T b.id with
    | none => rw [hf] at *; exact ⟨hb, rfl, rfl⟩
    | some p => rw [hf] at h; simp at h
  · rw [if_neg hb] at h; simp at h
theorem putS_else {T : Tabs} {b : BdR} (h : (putS T b).2 ≠ 0) : (putS T b).1 = T := by
  unfold putS at *
  by_cases hb : okB b = true
  · rw [if_pos hb] at *
    cases hf : findT T b.id with
    | none => rw [hf] at h; simp at h
    | some p => rfl
  · rw [if_neg hb]
theorem ord_fine (l : List BdR) : Fine (ordP l) ∧ (ordP l).length ≤ l.length := by
  refine snoc_ind (p := fun l => Fine (ordP l) ∧ (ordP l).length ≤ l.length) ⟨⟨fun b hb => (by cases hb), List.Pairwise.nil⟩, Nat.le_refl _⟩ (fun l b ih => ?_) l
  obtain ⟨hF, hl⟩ := ih
  rw [ordP_snoc, List.length_append, List.length_singleton]
  by_cases h : (putS (addAll (ordP l)) b).2 = 0
  · obtain ⟨h1, h2, _⟩ := putS_zero h
    rw [if_pos h]
    refine ⟨⟨fun x hx => ?_, ?_⟩, by rw [List.length_append, List.length_singleton]; omega⟩
    · rcases List.mem_append.1 hx with h3 | h3
      · exact hF.ok x h3
      · simp only [List.mem_singleton] at h3; rw [h3]; exact h1
    · rw [List.pairwise_append]
      refine ⟨hF.nd, List.pairwise_singleton _ _, fun a ha c hc => ?_⟩
      simp only [List.mem_singleton] at hc
      subst hc
      rw [findT_none] at h2
      obtain ⟨g1, g2⟩ := okB_mk (hF.ok a ha)
      exact h2 a.mask.toNat g1 a (by rw [addAll_at, List.mem_filter]; exact ⟨ha, by simp⟩)
  · rw [if_neg h]
    exact ⟨hF, by omega⟩
theorem ord_T (l : List BdR) (b : BdR) : addAll (ordP (l ++ [b])) = (putS (addAll (ordP l)) b).1 := by
  rw [ordP_snoc]
  by_cases h : (putS (addAll (ordP l)) b).2 = 0
  · rw [if_pos h, (putS_zero h).2.2, addAll_snoc]
  · rw [if_neg h, putS_else h]
/-- the place of a row in its table -/
theorem filter_at {P : List BdR} {p : BdR → Bool} {j : Nat} {b : BdR} (hb : P[j]? = some b) (hp : p b = true) : (P.filter p)[((P.take j).filter p).length]? = some b := by
  have hj := (List.getElem?_eq_some_iff.1 hb).1
  have e : P = P.take j ++ b :: P.drop (j + 1) := by
    have hb2 : P[j] = b := (List.getElem?_eq_some_iff.1 hb).2
    rw [← hb2, ← List.drop_eq_getElem_cons hj, List.take_append_drop]
  have : P.filter p = (P.take j).filter p ++ b :: (P.drop (j + 1)).filter p := by
    conv => lhs; rw [e]
    rw [List.filter_append, List.filter_cons, if_pos hp]
  rw [this, List.getElem?_append_right (Nat.le_refl _)]
  simp
theorem wrapAdd1 (k : Nat) (h : k ≤ 60) : wrap64 ((k : Int) + 1) = ((k + 1 : Nat) : Int) := by rw [w64_id (by omega) (by omega)]; omega
theorem wrapAdd2 (c k : Nat) (h : c ≤ 60) (h2 : k ≤ 60) : wrap64 ((c : Int) + k + 1) = ((c + (k + 1) : Nat) : Int) := by rw [w64_id (by omega) (by omega)]; omega
set_option maxRecDepth 100000 in
set_option maxHeartbeats 400000 in
theorem archOrder_any (W : World) (ds : List BdR) (A : Option Addr) (cp : Nat) (hc : ds.length ≤ cp) (hn : cp ≤ 9223372036854775807) (hr : RowsAt W A 11 ds.length (bRow ds)) (hid : ∀ d ∈ ds, IdW d.id) :
    Calls Try.prog 4 #[.slice A ds.length cp] W fun e w' => e = .returned (.bool true) ∧ W.Plus w' := by
  obtain ⟨i0, hi0, hz0, hz1, hz2⟩ := info_parts infoBd
  replace hi0 := Lib.hid hi0
  replace hz0 := Lib.hid hz0
  replace hz1 := Lib.hid hz1
  replace hz2 := Lib.hid hz2
  have k0 := Lib.hid (new_store (Own.start W))
  have hA := rows_hA hr
  obtain ⟨m, hm⟩ : ∃ m, m = min ds.length 60 := ⟨_, rfl⟩
  have hmb : m ≤ 60 ∧ m ≤ ds.length := by omega
  obtain ⟨hm60, hmd⟩ := hmb
  replace hr := Lib.hid hr
  replace hid := Lib.hid hid
  replace hm := Lib.hid hm
  go_enter Try.func4, Try.ntmps4
  go_upto_if 13 with (fail)
  go_cut [0] (fun s wz => s = .slice A m cp ∧ wz = W)
  case first =>
    by_cases h60 : 60 < ds.length
    · have h60i : (60 : Int) < ds.length := by omega
      have hd : decide (60 < ds.length) = true := decide_eq_true h60
      have hm6 : m = 60 := by rw [hm.out]; omega
      subst hm6
      obtain ⟨g, o, rfl⟩ := hA (by omega)
      have hc6 : 60 ≤ cp := by omega
      go_wp2_with fail
      go_meet
      exact ⟨rfl, rfl⟩
    · have h60i : ¬ (60 : Int) < ds.length := by omega
      have hd : decide (60 < ds.length) = false := decide_eq_false h60
      have hm6 : m = ds.length := by rw [hm.out]; omega
      subst hm6
      go_wp2_with fail
      go_meet
      exact ⟨rfl, rfl⟩
  obtain ⟨rfl, hWW⟩ := hcut
  rw [hWW]
  clear hWW
  go_upto_region 4 with (go_at_call 18; (with_reducible refine k0.out.mono ?_); rintro e w1 ⟨S, rfl, O1⟩)
  have O2 : Own W w1 (slA 11 (.slice none 0 0) 0 (bdsCs (ordP [])) :: storeA S (addAll (ordP [])) :: []) := Own.nilSl O1 11
  replace O2 := Lib.hid O2
  clear k0 O1
  go_wp2_with fail
  go_loopw [4, 5] (fun s v wr => ∃ (i : Nat) (B : Option Addr) (cb : Nat), i ≤ m ∧ v = nI i ∧ s = .slice B (ordP (ds.take i)).length cb ∧ Own W wr (slA 11 (.slice B (ordP (ds.take i)).length cb) (ordP (ds.take i)).length (bdsCs (ordP (ds.take i))) :: storeA S (addAll (ordP (ds.take i))) :: [])) (fun _ v _ => m - (intOf v).toNat)
  case atStart => exact ⟨0, none, 0, by omega, rfl, rfl, O2.out⟩
  case round =>
    clear O2
    obtain ⟨i, B, cb, hi, rfl, rfl, O2⟩ := hrel
    obtain ⟨hF, hPl⟩ := ord_fine (ds.take i)
    rw [List.length_take] at hPl
    obtain ⟨G, hTt⟩ := addAll_good _ hF
    by_cases hlt : i < m
    · have hlti : (i : Int) < m := by omega
      have hid1 : decide (i < m) = true := decide_eq_true hlt
      obtain ⟨x, hx⟩ : ∃ x, ds[i]? = some x := ⟨_, List.getElem?_eq_getElem (by omega)⟩
      obtain ⟨g, o, hA1, hg, hX⟩ := bd_at (hr.out.plus O2.p) i (by omega) x hx
      subst hA1
      have e1 := ordP_snoc (ds.take i) x
      have e2 := ord_T (ds.take i) x
      rw [← take_snoc hx] at e1 e2
      have k19 := put_O (O2.pull 1 rfl) G x (by omega)
      rw [← e2] at k19
      obtain ⟨a0, a1, a2, a3, a4, a5, a6, a7, a8, a9, a10⟩ := hX
      have hDW := Lib.hid (fun w' (p : W.Plus w') => bd_at (hr.out.plus p) i (by omega) x hx)
      obtain ⟨T2, hT2⟩ : ∃ T2, T2 = addAll (ordP (ds.take (i + 1))) := ⟨_, rfl⟩
      rw [← hT2] at k19
      obtain ⟨z, hz⟩ : ∃ z, z = (putS (addAll (ordP (ds.take i))) x).2 := ⟨_, rfl⟩
      rw [← hz] at k19 e1
      have hl60 : (ordP (ds.take i)).length ≤ 60 := by omega
      generalize ordP (ds.take i) = P0 at *
      generalize addAll P0 = T0 at *
      replace hT2 := Lib.hid hT2
      replace hz := Lib.hid hz
      replace k19 := Lib.hid k19
      replace O2 := Lib.hid O2
      clear hF hPl G hTt hx e2
      by_cases hz0' : z = 0
      · rw [if_pos hz0'] at e1
        have hzb : (z == 0) = true := by rw [hz0']; rfl
        replace hz0' := Lib.hid hz0'
        go_upto_region 9 with (go_at_call 19; (with_reducible refine k19.out.mono ?_); rintro e w5 ⟨rfl, O5⟩)
        obtain ⟨g', o', he, hg5, hX⟩ := hDW.out _ O5.p
        cases he
        clear a0 a1 a2 a3 a4 a5 a6 a7 a8 a9 a10 hg O2 k19
        obtain ⟨a0, a1, a2, a3, a4, a5, a6, a7, a8, a9, a10⟩ := hX
        have OA := Lib.hid ((O5.pull 1 rfl).alloc (.cells #[nI x.id.s, nI x.id.i, nI x.id.g, nI x.mask, nI x.x, nI x.y, nI x.vx, nI x.vy, nI x.hp, nI x.pw, nI x.lf] 33))
        have hS0 : Src Try.prog 11 42 (.slice (some ⟨w5.heap.size, 0, none⟩) 1 1) 1 x.cs (w5.alloc (.cells #[nI x.id.s, nI x.id.i, nI x.id.g, nI x.mask, nI x.x, nI x.y, nI x.vx, nI x.vy, nI x.hp, nI x.pw, nI x.lf] 33)) := src_bdNew w5 x 33
        have hS := Lib.hid hS0
        clear hS0
        replace O5 := Lib.hid O5
        go_upto_region 7 with (at_builtin; refine wpList_append_O rfl _ _ 42 42 rfl 33 i0 _ 11 88 underBds hi0.out hz0.out hz1.out hz2.out rfl rfl OA.out rfl hS.out (by unfold maxLen; omega) (by omega) ?_; intro A6 c6 w6 O6)
        have hl7 : P0.length + 1 = (ordP (ds.take (i + 1))).length := by rw [e1, List.length_append]; rfl
        have hb7 : bdsCs P0 ++ x.cs = bdsCs (ordP (ds.take (i + 1))) := by rw [e1, bdsCs_append]; rfl
        rw [hb7, hT2.out] at O6
        replace O6 := Lib.hid O6
        replace hl7 := Lib.hid hl7
        clear a0 a1 a2 a3 a4 a5 a6 a7 a8 a9 a10 hg5 OA hS O5 e1 hb7
        go_wp2_with fail
        go_roundw
        case rel => exact ⟨i + 1, A6, c6, hlt, by go_num, by rw [← hl7.out], by rw [← hl7.out]; exact O6.out⟩
        case measure => simp [intOf]; omega
      · rw [if_neg hz0'] at e1
        have hzb : (z == 0) = false := by simpa using hz0'
        replace hz0' := Lib.hid hz0'
        replace e1 := Lib.hid e1
        go_upto_region 7 with (go_at_call 19; (with_reducible refine k19.out.mono ?_); rintro e w5 ⟨rfl, O5⟩)
        rw [hT2.out] at O5
        have O6 := Lib.hid (O5.pull 1 rfl)
        clear a0 a1 a2 a3 a4 a5 a6 a7 a8 a9 a10 hg O5 O2 k19
        go_wp2_with fail
        go_roundw
        case rel => exact ⟨i + 1, B, cb, hlt, by go_num, by rw [e1.out], by rw [e1.out]; rw [e1.out] at O6; exact O6.out⟩
        case measure => simp [intOf]; omega
    · obtain rfl : i = m := by omega
      have hid1 : decide (i < i) = false := by simp
      have hat := addAll_at (ordP (ds.take i))
      have hokm := hF.ok
      generalize ordP (ds.take i) = P at *
      obtain ⟨T, hTT⟩ : ∃ T, T = addAll P := ⟨_, rfl⟩
      rw [← hTT] at hat hTt G O2
      clear hTT hF
      replace hat := Lib.hid hat
      replace hokm := Lib.hid hokm
      replace G := Lib.hid G
      obtain ⟨n1, hn1⟩ : ∃ n1, n1 = P.length := ⟨_, rfl⟩
      rw [← hn1] at hTt hPl O2
      rw [← hn1]
      have hn60 : n1 ≤ 60 := by omega
      have k12 := Lib.hid (tables_O (O2.pull 1 rfl) (by omega))
      clear O2 hPl
      replace hn1 := Lib.hid hn1
      go_upto_region 11 with (go_at_call 12; (with_reducible refine k12.out.mono ?_); rintro e w7 ⟨A7, c7, L, rfl, O7, hL⟩)
      have hcnt := Lib.hid (cntL_all hL)
      have hLb := tabs_ids hL (by omega)
      obtain ⟨hL32, _⟩ := hLb
      obtain ⟨n, hn⟩ : ∃ n, n = L.length := ⟨_, rfl⟩
      rw [← hn] at hL32
      have hrd := Lib.hid (fun w' (p : w7.Plus w') => (tbl_rd O7).plus p)
      have hsl := Lib.hid (Sl.atP (O7.sl 3 rfl))
      have hlen := Lib.hid (fun w' (p : w7.Plus w') => len_store (Own.atP (O7.pull 2 rfl) w' p))
      have hp7 := Lib.hid O7.p
      rw [← hn]
      replace hn := Lib.hid hn
      replace hL := Lib.hid hL
      clear O7 k12
      go_wp2_with fail
      go_loopw [7, 8] (fun c v wr => ∃ a : Nat, a ≤ n ∧ v = nI a ∧ c = nI (cntL (L.take a)) ∧ w7.Plus wr) (fun _ v _ => n - (intOf v).toNat)
      case atStart => exact ⟨0, by omega, rfl, rfl, Plus.refl _⟩
      case round =>
        obtain ⟨a, ha, rfl, rfl, hp⟩ := hrel
        rename World => wy
        by_cases hat1 : a < n
        · have hati : (a : Int) < n := by omega
          have had : decide (a < n) = true := decide_eq_true hat1
          obtain ⟨x, hx⟩ : ∃ x, L[a]? = some x := ⟨_, List.getElem?_eq_getElem (by rw [← hn.out]; exact hat1)⟩
          obtain ⟨m, hm32, hm0, hxm⟩ := tabs_at hL.out hx
          have hcn := Lib.hid (cntL_take hx)
          have hcb : cntL (L.take a) ≤ 60 := by
            have h1 : cntL L = cntL (L.take a) + cntL (L.drop a) := by
              unfold cntL
              rw [← List.sum_append, ← List.map_append, List.take_append_drop]
            rw [hcnt.out] at h1
            omega
          have hTa := Lib.hid (fun w' (p : w7.Plus w') => tb_cells (hrd.out w' p) a x hx)
          have hI := Lib.hid (fun w' (p : w7.Plus w') => (hrd.out w' p).ids a x hx)
          obtain ⟨⟨xa, xc⟩, xm, ids⟩ := x
          cases hxm
          dsimp only at hTa hI hcn
          rw [List.length_map] at hTa hI hcn
          obtain ⟨q, hq⟩ : ∃ q, q = (T m).length := ⟨_, rfl⟩
          rw [← hq] at hTa hI hcn
          have hTm : T m = P.filter (fun b => decide (b.mask.toNat = m)) := hat.out m
          obtain ⟨c0, hc0⟩ : ∃ c0, c0 = cntL (L.take a) := ⟨_, rfl⟩
          rw [← hc0] at hcn hcb
          rw [← hc0]
          have hq9 : q ≤ 60 := by rw [hq]; exact Nat.le_trans (len_total T m hm32) (by omega)
          replace hTm := Lib.hid hTm
          replace hq := Lib.hid hq
          replace hc0 := Lib.hid hc0
          replace hp := Lib.hid hp
          clear hx hm0
          go_wp2_with fail
          go_loopw [7, 9, 10] (fun c k v wz => ∃ j : Nat, j ≤ n1 ∧ v = nI j ∧ k = nI ((P.take j).filter (fun b => decide (b.mask.toNat = m))).length ∧ c = nI ((c0 + ((P.take j).filter (fun b => decide (b.mask.toNat = m))).length : Nat) : Int) ∧ w7.Plus wz) (fun _ _ v _ => n1 - (intOf v).toNat)
          case atStart => exact ⟨0, by omega, rfl, rfl, rfl, hp.out⟩
          case round =>
            clear hp
            obtain ⟨j, hj, rfl, rfl, rfl, hp⟩ := hrel
            rename World => wz
            have hkq : j < n1 → ∀ b, P[j]? = some b → b.mask.toNat = m → ((P.take j).filter (fun b => decide (b.mask.toNat = m))).length < q ∧ ((T m).map (·.id))[((P.take j).filter (fun b => decide (b.mask.toNat = m))).length]? = some b.id := fun _ b hb he => by
              have h1 := filter_at (p := fun b => decide (b.mask.toNat = m)) hb (by simpa using he)
              rw [← hTm.out] at h1
              refine ⟨?_, by rw [List.getElem?_map, h1]; rfl⟩
              rw [hq.out]
              exact (List.getElem?_eq_some_iff.1 h1).1
            by_cases hjt : j < n1
            · have hjti : (j : Int) < n1 := by omega
              have hjd : decide (j < n1) = true := decide_eq_true hjt
              obtain ⟨b, hb⟩ : ∃ b, P[j]? = some b := ⟨_, List.getElem?_eq_getElem (by rw [← hn1.out]; exact hjt)⟩
              have hok := hokm.out b (List.mem_of_getElem? hb)
              obtain ⟨g5, o5, hB, hg5, hX⟩ := sl_bd (hsl.out _ hp) j b hb hjt
              obtain ⟨g, o, hA7, hg, a0, a1⟩ := hTa.out _ hp
              subst hA7
              obtain ⟨a2, a3, a4, a5, a6, a7, a8, a9, a10, a11, a12⟩ := hX
              rw [show (Value.slice B n1 cb) = .slice (some ⟨g5, o5, none⟩) n1 cb by rw [hB]]
              have hsnocF := take_snoc hb
              by_cases he : b.mask.toNat = m
              · have hbm : b.mask = (m : Int) := by have := (okB_mk hok).2; omega
                obtain ⟨hk1, hk2⟩ := hkq hjt b hb he
                obtain ⟨g6, o6, hI6, hg6, d0, d1, d2⟩ := id_cells (hI.out _ hp) _ b.id hk2 hk1
                subst hI6
                have e5 : ((P.take (j + 1)).filter (fun b => decide (b.mask.toNat = m))).length = ((P.take j).filter (fun b => decide (b.mask.toNat = m))).length + 1 := by
                  rw [hsnocF, List.filter_append, List.length_append]
                  simp [he]
                generalize ((P.take j).filter (fun b => decide (b.mask.toNat = m))).length = kj at *
                have hne : (b.mask != (m : Int)) = false := by rw [hbm]; simp
                have hkd : decide (q ≤ kj) = false := decide_eq_false (by omega)
                have hki : (kj : Int) < q := by omega
                have hk60 : kj ≤ 60 := by omega
                have hn3 := neqId3 b.id.s b.id.i b.id.g b.id.s b.id.i b.id.g
                rw [decide_eq_true rfl] at hn3
                replace e5 := Lib.hid e5
                replace hp := Lib.hid hp
                clear hb hok hkq hk2 hsnocF hbm he
                go_upto_region 19 with fail
                refine wp_region_grow (by kernel_rfl) (by kernel_rfl) ?_
                repeat (go_big_quiet_step (fail))
                refine wpQuiet_nil ?_
                intro ex
                go_upto_region 20 with fail
                refine wp_region_grow (by kernel_rfl) (by kernel_rfl) ?_
                repeat (go_big_quiet_step (fail))
                refine wpQuiet_nil ?_
                intro ez
                go_wp2_with fail
                go_roundw
                case rel => exact ⟨j + 1, hjt, by go_num, by rw [e5.out]; go_num, by rw [e5.out]; go_num, Plus.trans hp.out (by (repeat (first | exact Plus.refl _ | apply Plus.plus | apply Plus.alloc | apply Plus.drew)))⟩
                case measure => simp [intOf]; omega
              · have hbm : ¬ b.mask = (m : Int) := fun k => he (by rw [k]; rfl)
                have e5 : ((P.take (j + 1)).filter (fun b => decide (b.mask.toNat = m))).length = ((P.take j).filter (fun b => decide (b.mask.toNat = m))).length := by
                  rw [hsnocF, List.filter_append, List.length_append]
                  simp [he]
                generalize ((P.take j).filter (fun b => decide (b.mask.toNat = m))).length = kj at *
                have hne : (b.mask != (m : Int)) = true := by simpa using hbm
                replace e5 := Lib.hid e5
                replace hp := Lib.hid hp
                clear hb hok hkq hsnocF hbm he
                go_upto_region 19 with fail
                refine wp_region_grow (by kernel_rfl) (by kernel_rfl) ?_
                repeat (go_big_quiet_step (fail))
                refine wpQuiet_nil ?_
                intro ex
                go_wp2_with fail
                go_roundw
                case rel => exact ⟨j + 1, hjt, by go_num, by rw [e5.out], by rw [e5.out], Plus.plus hp.out ex⟩
                case measure => simp [intOf]; omega
            · obtain rfl : j = n1 := by omega
              have hjd : decide (j < j) = false := by simp
              have e6 : ((P.take j).filter (fun b => decide (b.mask.toNat = m))).length = q := by
                rw [show P.take j = P by rw [hn1.out, List.take_length], ← hTm.out]
                exact hq.out.symm
              rw [e6]
              have hcc : ((c0 + q : Nat) : Int) = (cntL (L.take (a + 1)) : Int) := by rw [hcn.out]
              rw [hcc]
              replace hp := Lib.hid hp
              clear hkq e6 hcc
              go_wp2_with fail
              go_roundw
              case rel => exact ⟨a + 1, hat1, by go_num, rfl, hp.out⟩
              case measure => simp [intOf]; omega
        · obtain rfl : a = n := by omega
          have had : decide (a < a) = false := by simp
          rw [show L.take a = L by rw [hn.out, List.take_length], hcnt.out, hTt]
          have k16 := hlen.out _ hp
          rw [hTt] at k16
          replace k16 := Lib.hid k16
          have hp9 := Lib.hid (Plus.trans hp7.out hp)
          clear hp
          go_wp2_with (first
            | (go_at_call 16; (with_reducible refine k16.out.mono ?_); rintro e w' ⟨rfl, e1, rfl⟩)
            | (go_at_call 17; (with_reducible refine (awake_any _).mono ?_); rintro e w' ⟨rfl, e9, rfl⟩))
          go_ret
          exact ⟨rfl, Plus.plus (Plus.plus hp9.out e1) e9⟩
end Go.Proofs.Ytanbppejfhnjbaa
