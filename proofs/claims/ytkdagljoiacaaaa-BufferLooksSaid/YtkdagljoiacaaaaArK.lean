/- arch: the reference's Tables: walk. -/
import Derived.Test.YtkdagljoiacaaaaArJ
set_option linter.unusedSimpArgs false
set_option linter.unusedVariables false
namespace Go.Proofs.Ytkdagljoiacaaaa
open Go.RowKit
set_option maxRecDepth 100000 in
set_option maxHeartbeats 1000000 in
theorem refTables_O {W wx : World} {R : Nat} {T : Tabs} {l : List Asn} (h : Own W wx (refA R T :: l)) (ht : total T ≤ 90000) :
    Calls Try.prog 44 #[chP R] wx fun e w' => ∃ A c L, e = .returned (.slice A L.length c) ∧ Own W w' (tblL (.slice A L.length c) L ++ (refA R T :: l)) ∧ Same2 (L.map (·.2)) (tabsN T 32) := by
  obtain ⟨i0, hi0, hz0, hz1, hz2⟩ := info_parts infoTb
  obtain ⟨j0, hj0, hy0, hy1, hy2⟩ := info_parts infoID
  replace hi0 := Lib.hid hi0
  replace hz0 := Lib.hid hz0
  replace hz1 := Lib.hid hz1
  replace hz2 := Lib.hid hz2
  replace hj0 := Lib.hid hj0
  replace hy0 := Lib.hid hy0
  replace hy1 := Lib.hid hy1
  replace hy2 := Lib.hid hy2
  obtain ⟨c, O⟩ := ref_open h
  have O1 : Own W wx (tblL (.slice none 0 0) [] ++ refL R c T l) := Own.nilSl ((Own.perm O (List.Perm.refl _) : Own W wx (([] : List Asn) ++ refL R c T l)).join) 2
  replace O1 := Lib.hid O1
  clear O h
  go_enter Try.func44, Try.ntmps44
  go_wp2_with fail
  go_loopw [3, 4] (fun s v wr => ∃ (m : Nat) (A : Option Addr) (cp : Nat) (L : List (Ad × TbR)), m ≤ 32 ∧ v = nI m ∧ s = .slice A L.length cp ∧ Own W wr (tblL (.slice A L.length cp) L ++ refL R c T l) ∧ Same2 (L.map (·.2)) (tabsN T m)) (fun _ v _ => 32 - (intOf v).toNat)
  case atStart => exact ⟨0, none, 0, [], by omega, rfl, rfl, O1.out, rfl⟩
  case round =>
    clear O1
    obtain ⟨m, A, cp, L, hm, rfl, rfl, O2, hL⟩ := hrel
    by_cases hm32 : m < 32
    · have hm32i : (m : Int) < 32 := by omega
      have O3 : Own W wr (refL R c T (slA 2 (.slice A L.length cp) L.length (tbCs L) :: bothA (L.map idA) :: l)) := (O2.pull 3 rfl).pull 3 rfl
      obtain ⟨lR, sc, _⟩ := ref_at O3
      have s0 := sc m hm32
      have hlen : (T m).length ≤ 90000 := Nat.le_trans (len_total T _ hm32) ht
      have hLl : L.length ≤ 32 := by
        have h1 := congrArg List.length (hL : L.map (·.2) = tabsN T m)
        rw [List.length_map] at h1
        have := tabsN_length T m
        omega
      by_cases h0 : (T m).length = 0
      · have hL2 : Same2 (L.map (·.2)) (tabsN T (m + 1)) := by
          rw [tabsN_succ, if_pos h0, List.append_nil]
          exact hL
        replace hL2 := Lib.hid hL2
        rw [h0] at s0
        clear hL sc O3
        replace O2 := Lib.hid O2
        go_wp2_with fail
        go_roundw
        case rel => exact ⟨m + 1, A, cp, L, hm32, by go_num, rfl, O2.out, hL2.out⟩
        case measure => simp [intOf]; omega
      · have hL2 : ∀ a : Ad, Same2 ((L ++ [(a, ((m : Int), (T m).map (·.id)))]).map (·.2)) (tabsN T (m + 1)) := fun a => by
          rw [tabsN_succ, if_neg h0, List.map_append]
          show _ = _
          rw [show L.map (·.2) = tabsN T m from hL]
          rfl
        have O4 := (O3.newCells [nI m, .slice none 0 0] 103)
        replace O4 := Lib.hid ((Own.nilSl O4 3).rot1)
        obtain ⟨n, hn⟩ : ∃ n, n = (T m).length := ⟨_, rfl⟩
        rw [← hn] at s0 hlen h0
        have hd : ((n : Int) == 0) = false := by simp; omega
        have hd2 : decide (n = 0) = false := by simp; omega
        replace hL2 := Lib.hid hL2
        replace hn := Lib.hid hn
        replace h0 := Lib.hid h0
        replace O2 := Lib.hid O2
        clear hL sc O3
        go_upto_region 7 with fail
        obtain ⟨w1, hw1⟩ : ∃ w1, wr.alloc (.cells #[nI m, .slice none 0 0] 103) = w1 := ⟨_, rfl⟩
        rw [hw1] at O4 ⊢
        generalize wr.heap.size = B at *
        clear hw1 s0 lR O2 hd hd2
        go_wp2_with fail
        go_loopw [6] (fun v wz => ∃ (i : Nat) (A3 : Option Addr) (c3 : Nat), i ≤ n ∧ v = nI i ∧ Own W wz (cellsA B [nI m, .slice A3 i c3] :: slA 3 (.slice A3 i c3) i (idsCs (((T m).take i).map (·.id))) :: refL R c T (slA 2 (.slice A L.length cp) L.length (tbCs L) :: bothA (L.map idA) :: l))) (fun v _ => n - (intOf v).toNat)
        case atStart => exact ⟨0, none, 0, by omega, rfl, O4.out⟩
        case round =>
          clear O4
          obtain ⟨i, A3, c3, hi, rfl, O5⟩ := hrel
          rename World => wz
          have O6 : Own W wz (refL R c T (cellsA B [nI m, .slice A3 i c3] :: slA 3 (.slice A3 i c3) i (idsCs (((T m).take i).map (·.id))) :: (slA 2 (.slice A L.length cp) L.length (tbCs L) :: bothA (L.map idA) :: l))) := (O5.pull 3 rfl).pull 3 rfl
          obtain ⟨lR, sc, _⟩ := ref_at O6
          have s0 := sc m hm32
          rw [← hn.out] at s0
          obtain ⟨lB, qB, fB⟩ := O5.cells 0 rfl
          have b1 := qB 1 (by simp)
          simp only [List.getElem?_cons_succ, List.getElem?_cons_zero] at b1
          have f1 := fB 1
          haveI : InW B wz := ⟨lB⟩
          by_cases hlt : i < n
          · have hlti : (i : Int) < n := by omega
            have hdl : decide (i < n) = true := decide_eq_true hlt
            obtain ⟨b, hb⟩ : ∃ b, (T m)[i]? = some b := ⟨_, List.getElem?_eq_getElem (by rw [← hn.out]; exact hlt)⟩
            obtain ⟨g, o, hA, hg, hX⟩ := sl_bd ((ref_pull O6 hm32).sl 0 rfl) i b hb (by rw [← hn.out]; exact hlt)
            obtain ⟨a0, a1, a2, _, _, _, _, _, _, _, _⟩ := hX
            rw [hA] at s0
            have e1 : idsCs (((T m).take (i + 1)).map (·.id)) = idsCs (((T m).take i).map (·.id)) ++ [nI b.id.s, nI b.id.i, nI b.id.g] := by
              rw [List.take_add_one, hb, List.map_append]
              unfold idsCs
              rw [List.flatMap_append]
              rfl
            have OP : RowKit.Hid (∀ w', wz.Plus w' → Own W w' (slA 3 (.slice A3 i c3) i (idsCs (((T m).take i).map (·.id))) :: cellsA B [nI m, .slice A3 i c3] :: refL R c T (slA 2 (.slice A L.length cp) L.length (tbCs L) :: bothA (L.map idA) :: l))) := Lib.hid (Own.atP O5.rot1)
            replace e1 := Lib.hid e1
            clear O5 O6 sc qB fB lB hb hA
            go_upto_region 10 with fail
            go_region_law ((go_loud (refine step_append_O (by rfl) _ _ 66 66 (by rfl) 38 j0 (.agg #[nI 0, nI 0, nI 0]) 3 24 underIDs hj0.out hy0.out hy1.out hy2.out rfl (by rfl) (OP.out _ (by (repeat (first | exact Plus.refl _ | apply Plus.plus | apply Plus.alloc | apply Plus.drew)))) (xv := .slice (some ⟨_, 0, none⟩) 1 1) (by rfl) (src_id _ _ ⟨b.id.s, b.id.i, b.id.g⟩ (by simp [go_sem]) (by simp [go_sem]) (by simp [go_sem])) (by unfold maxLen; first | omega | (simp only; omega)) (by first | omega | (simp only; omega)) ?_); intro A6 c6 w6 O6; obtain ⟨lB6, qB6, fB6⟩ := O6.cells 1 rfl; have b16 := qB6 1 (by simp); simp only [List.getElem?_cons_succ, List.getElem?_cons_zero] at b16; have fb16 := fB6 1; haveI : InW B w6 := ⟨lB6⟩; clear qB6 fB6))
            all_goals
              have O7 := O6.rot1.setCell (i := 1) (v := .slice A6 (i + 1) c6) (by simp)
              simp only [List.set_cons_succ, List.set_cons_zero] at O7
              rw [← e1.out] at O7
              replace O7 := Lib.hid O7
              clear O6
              go_wp2_with fail
              go_roundw
              case rel => exact ⟨i + 1, A6, c6, hlt, by go_num, O7.out⟩
              case measure => simp [intOf]; omega
          · obtain rfl : i = n := by omega
            have b0 := qB 0 (by simp)
            simp only [List.getElem?_cons_zero] at b0
            have hdl : decide (i < i) = false := by simp
            have O7 := ((O6.pull 4 rfl).alloc (.cells #[nI m, .slice A3 i c3] 103))
            have hS7 := Lib.hid (src_tb (wz.alloc (.cells #[nI m, .slice A3 i c3] 103)) wz.heap.size m (.slice A3 i c3) rfl (by simp [go_sem]) (by simp [go_sem]))
            replace O7 := Lib.hid O7
            clear sc qB fB O5 O6 f1
            go_upto_region 11 with fail
            go_upto_region 4 with (at_builtin; refine wpList_append_O rfl _ _ 86 86 rfl 103 i0 _ 2 32 underTbs hi0.out hz0.out hz1.out hz2.out rfl rfl (O7.out) rfl hS7.out (by unfold maxLen; omega) (by omega) ?_; intro A6 c6 w6 O6)
            have O8 : Own W w6 (slA 2 (.slice A6 (L.length + 1) c6) (L.length + 1) (tbCs L ++ [nI m, .slice A3 i c3]) :: bothA (L.map idA) :: slA 3 (.slice A3 i c3) i (idsCs (((T m).take i).map (·.id))) :: refL R c T l) := (((O6.pull 3 rfl).drop.pull 3 rfl).pull 4 rfl).pull 2 rfl
            have hx : i = ((T m).map (·.id)).length := by rw [List.length_map]; exact hn.out
            rw [hn.out, List.take_length, ← hn.out] at O8
            rw [hx] at O8
            have O9 := tbl_snoc (x := ((A3, c3), ((m : Int), (T m).map (·.id)))) O8 rfl
            replace hL2 := Lib.hid (hL2.out (A3, c3))
            generalize (T m).map (·.id) = ids at *
            have hll : (L ++ [((A3, c3), ((m : Int), ids))]).length = L.length + 1 := by simp
            replace O9 := Lib.hid O9
            replace hll := Lib.hid hll
            clear O6 O7 O8 hS7 b0 b1 s0 lR hx hdl
            go_wp2_with fail
            go_roundw
            case rel => exact ⟨m + 1, A6, c6, L ++ [((A3, c3), ((m : Int), ids))], hm32, by go_num, by rw [hll.out], by rw [hll.out]; exact O9.out, hL2.out⟩
            case measure => simp [intOf]; omega
    · obtain rfl : m = 32 := by omega
      have hL2 := Lib.hid hL
      have O9 := Lib.hid (ref_shut ((O2.pull 3 rfl).pull 3 rfl))
      clear hL O2
      go_wp2_with fail
      go_ret
      exact ⟨A, cp, L, rfl, (O9.out.pull 2 rfl).pull 2 rfl, hL2.out⟩
end Go.Proofs.Ytkdagljoiacaaaa
