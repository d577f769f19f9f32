/- arch: Tables: walk. -/
import Derived.Test.YtkdagljoiacaaaaArI
set_option linter.unusedSimpArgs false
set_option linter.unusedVariables false
namespace Go.Proofs.Ytkdagljoiacaaaa
open Go.RowKit
/-- a table as it is told: its mask, its names -/
abbrev TbR := Int × List IdR
def idsCs (l : List IdR) : List Value := l.flatMap IdR.cs
def idA (x : Ad × TbR) : Asn := slA 3 (.slice x.1.1 x.2.2.length x.1.2) x.2.2.length (idsCs x.2.2)
def tbCs (L : List (Ad × TbR)) : List Value := L.flatMap fun x => [nI x.2.1, .slice x.1.1 x.2.2.length x.1.2]
/-- tables that are told -/
def tblL (v : Value) (L : List (Ad × TbR)) : List Asn := [slA 2 v L.length (tbCs L), bothA (L.map idA)]
def tabsN (T : Tabs) (m : Nat) : List TbR := (List.range m).flatMap fun (k : Nat) => if (T k).length = 0 then [] else [((k : Int), (T k).map (·.id))]
theorem tabsN_succ (T : Tabs) (m : Nat) : tabsN T (m + 1) = tabsN T m ++ if (T m).length = 0 then [] else [((m : Int), (T m).map (·.id))] := by
  unfold tabsN
  rw [List.range_succ, List.flatMap_append]
  simp
theorem tabsN_length (T : Tabs) (m : Nat) : (tabsN T m).length ≤ m := by
  induction m with
  | zero => exact Nat.le_refl _
  | succ m ih =>
    rw [tabsN_succ, List.length_append]
    split
    · simp only [List.length_nil]; omega
    · simp only [List.length_cons, List.length_nil]; omega
theorem idsCs_map (l : List BdR) : idsCs (l.map (·.id)) = colCs 0 l := by
  unfold idsCs colCs
  rw [List.flatMap_map]
  rfl
theorem idsCs_length (l : List IdR) : (idsCs l).length = l.length * 3 := by
  unfold idsCs
  induction l with
  | nil => rfl
  | cons b r ih =>
    have hl : b.cs.length = 3 := rfl
    rw [List.flatMap_cons, List.length_append, ih, hl, List.length_cons]
    omega
theorem idsCs_one (l : List IdR) : ∀ u ∈ idsCs l, u.oneCell' = true := fun u hu => by
  unfold idsCs at hu
  obtain ⟨p, _, hp⟩ := List.mem_flatMap.1 hu
  simp only [IdR.cs, List.mem_cons, List.not_mem_nil, or_false] at hp
  rcases hp with rfl | rfl | rfl <;> rfl
theorem idsCs_get (l : List IdR) (i : Nat) (b : IdR) (h : l[i]? = some b) (j : Nat) (hj : j < 3) : (idsCs l)[i * 3 + j]? = b.cs[j]? := by
  unfold idsCs
  induction l generalizing i with
  | nil => simp at h
  | cons r t ih =>
    have hr : r.cs.length = 3 := rfl
    rw [List.flatMap_cons]
    cases i with
    | zero =>
      simp at h
      subst h
      rw [List.getElem?_append_left (by rw [hr]; omega)]
      simp
    | succ i =>
      rw [List.getElem?_append_right (by rw [hr]; omega), hr, show (i + 1) * 3 + j - 3 = i * 3 + j by omega]
      exact ih i (by simpa using h)
theorem tbCs_length (L : List (Ad × TbR)) : (tbCs L).length = L.length * 2 := by
  unfold tbCs
  induction L with
  | nil => rfl
  | cons b r ih => rw [List.flatMap_cons, List.length_append, ih, List.length_cons]; simp; omega
theorem tbCs_get (L : List (Ad × TbR)) (i : Nat) (x : Ad × TbR) (h : L[i]? = some x) : (tbCs L)[i * 2]? = some (nI x.2.1) ∧ (tbCs L)[i * 2 + 1]? = some (.slice x.1.1 x.2.2.length x.1.2) := by
  unfold tbCs
  induction L generalizing i with
  | nil => simp at h
  | cons r t ih =>
    rw [List.flatMap_cons]
    cases i with
    | zero =>
      simp at h
      subst h
      exact ⟨rfl, rfl⟩
    | succ i =>
      rw [List.getElem?_append_right (by simp; omega), List.getElem?_append_right (by simp; omega)]
      simp only [List.length_cons, List.length_nil]
      rw [show (i + 1) * 2 - (0 + 1 + 1) = i * 2 by omega, show (i + 1) * 2 + 1 - (0 + 1 + 1) = i * 2 + 1 by omega]
      exact ih i (by simpa using h)
theorem src_ids {w : World} {A : Option Addr} {n c : Nat} {ps : List IdR} (h : Sl w 3 (.slice A n c) n (idsCs ps)) (hn : n = ps.length) : Src Try.prog 3 66 (.slice A n c) n (idsCs ps) w := by
  rcases h.val with ⟨he, h0⟩ | ⟨g, off, cap, he, _, _, _, hc, _⟩
  · cases he
    obtain rfl : ps = [] := List.eq_nil_of_length_eq_zero (by omega)
    exact Src.ofNil w underIDs 0
  · cases he
    exact Src.ofSlice w underIDs ⟨g, off, none⟩ n c (idsCs ps) (by rw [idsCs_length, hn]) (fun j u hj => by
      rw [Addr.add_lit, hc j (by have := (List.getElem?_eq_some_iff.1 hj).1; rw [idsCs_length, ← hn] at this; exact this)]
      exact hj) (idsCs_one ps)
theorem underTbs : Try.prog.underlying 86 = some (.slice 103) := by kernel_rfl
theorem infoTb : (Try.prog.info? 103).map (fun i => (i.zero, i.size, i.bytes)) = some (some (.agg #[nI 0, .slice none 0 0]), 2, 32) := by kernel_rfl
/-- a slice without elements that is not nil -/
theorem Own.emptySl {W w : World} {l : List Asn} (h : Own W w l) (size : Nat) (t : TypeId) : Own W (w.alloc (.cells #[] t)) (slA size (.slice (some ⟨w.heap.size, 0, none⟩) 0 0) 0 [] :: l) :=
  h.add (Chg.of_alloc w _ _) (Q := slA size (.slice (some ⟨w.heap.size, 0, none⟩) 0 0) 0 []) (A := fun k => k = w.heap.size)
    ⟨fun k => ⟨fun e => by rw [e]; rfl, fun e => by cases e; rfl⟩, ⟨by simp, .inr ⟨w.heap.size, 0, 0, rfl, by rw [World.size_alloc]; exact Nat.lt_succ_self _, Nat.le_refl _, Nat.zero_le _, fun j hj => by omega, fun j hj => by omega⟩⟩⟩ (fun k hk => by omega)
set_option maxRecDepth 100000 in
set_option maxHeartbeats 1000000 in
theorem clone_O {W wx : World} {l : List Asn} (O : Own W wx l) (a : Addr) (n c : Nat) (ps : List IdR) (hn : n ≤ 100000) (hS : ∀ w', wx.Plus w' → Src Try.prog 3 66 (.slice (some a) n c) n (idsCs ps) w') :
    Calls Try.prog 58 #[.slice (some a) n c] wx fun e w' => ∃ A c', e = .returned (.slice A n c') ∧ Own W w' (slA 3 (.slice A n c') n (idsCs ps) :: l) := by
  obtain ⟨i0, hi0, hz0, hz1, hz2⟩ := info_parts infoID
  replace hi0 := Lib.hid hi0
  replace hz0 := Lib.hid hz0
  replace hz1 := Lib.hid hz1
  replace hz2 := Lib.hid hz2
  have q := fun (w : World) => Lib.run_eql_slice_nil (P := Try.prog) w _ _ (some a) n c 0 0 underIDs
  have O1 := Own.emptySl O 3 38
  have hS1 := Lib.hid (hS _ (Plus.alloc (Plus.refl wx) (.cells #[] 38)))
  replace O1 := Lib.hid O1
  replace hS := Lib.hid hS
  replace O := Lib.hid O
  go_enter Try.func58, Try.ntmps58
  go_upto_region 3 with fail
  go_wp2_with (at_builtin; refine wpList_append_O rfl _ _ 66 66 rfl 38 i0 _ 3 24 underIDs hi0.out hz0.out hz1.out hz2.out rfl rfl O1.out rfl hS1.out (by unfold maxLen; omega) (by omega) ?_; intro A2 cap2 w6 O6)
  go_ret
  rw [List.nil_append, Nat.zero_add] at O6
  exact ⟨A2, cap2, rfl, O6⟩
theorem src_tb (w : World) (B : Nat) (k : Int) (v : Value) (hv : v.oneCell' = true) (h0 : w.cell? ⟨B, 0, none⟩ = some (nI k)) (h1 : w.cell? ⟨B, 1, none⟩ = some v) : Src Try.prog 2 86 (.slice (some ⟨B, 0, none⟩) 1 1) 1 [nI k, v] w := by
  refine Src.ofCells underTbs _ _ rfl (fun j hj => ?_) (fun u hu => ?_) 1
  · match j, hj with
    | 0, _ => exact h0
    | 1, _ => exact h1
    | j + 2, hj => simp at hj; omega
  · simp only [List.mem_cons, List.not_mem_nil, or_false] at hu
    rcases hu with rfl | rfl
    · rfl
    · exact hv
/-- one more table -/
theorem tbl_snoc {W w : World} {A : Option Addr} {cp k : Nat} {L : List (Ad × TbR)} {x : Ad × TbR} {l : List Asn} (h : Own W w (slA 2 (.slice A (k + 1) cp) (k + 1) (tbCs L ++ [nI x.2.1, .slice x.1.1 x.2.2.length x.1.2]) :: bothA (L.map idA) :: idA x :: l)) (hk : k = L.length) :
    Own W w (tblL (.slice A (k + 1) cp) (L ++ [x]) ++ l) := by
  have h1 : Own W w (L.map idA ++ (slA 2 (.slice A (k + 1) cp) (k + 1) (tbCs L ++ [nI x.2.1, .slice x.1.1 x.2.2.length x.1.2]) :: idA x :: l)) := h.rot1.both
  have h2 : Own W w ((L.map idA ++ [idA x]) ++ (slA 2 (.slice A (k + 1) cp) (k + 1) (tbCs L ++ [nI x.2.1, .slice x.1.1 x.2.2.length x.1.2]) :: l)) := by
    refine h1.perm ?_
    rw [List.append_assoc]
    exact List.Perm.append_left _ (List.Perm.swap _ _ _)
  have h3 := h2.join.rot1
  have e1 : (L ++ [x]).map idA = L.map idA ++ [idA x] := by simp
  have e2 : tbCs (L ++ [x]) = tbCs L ++ [nI x.2.1, .slice x.1.1 x.2.2.length x.1.2] := by unfold tbCs; rw [List.flatMap_append]; rfl
  have e3 : (L ++ [x]).length = k + 1 := by simp [hk]
  unfold tblL
  rw [e1, e2, e3]
  exact h3
set_option maxRecDepth 100000 in
set_option maxHeartbeats 1000000 in
theorem tables_O {W wx : World} {S : Nat} {T : Tabs} {l : List Asn} (h : Own W wx (storeA S T :: l)) (ht : total T ≤ 90000) :
    Calls Try.prog 43 #[chP S] wx fun e w' => ∃ A c L, e = .returned (.slice A L.length c) ∧ Own W w' (tblL (.slice A L.length c) L ++ (storeA S T :: l)) ∧ Same2 (L.map (·.2)) (tabsN T 32) := by
  obtain ⟨i0, hi0, hz0, hz1, hz2⟩ := info_parts infoTb
  replace hi0 := Lib.hid hi0
  replace hz0 := Lib.hid hz0
  replace hz1 := Lib.hid hz1
  replace hz2 := Lib.hid hz2
  have O1 : Own W wx (tblL (.slice none 0 0) [] ++ (storeA S T :: l)) := Own.nilSl ((Own.perm h (List.Perm.refl _) : Own W wx (([] : List Asn) ++ (storeA S T :: l))).join) 2
  replace O1 := Lib.hid O1
  replace h := Lib.hid h
  go_enter Try.func43, Try.ntmps43
  go_wp2_with fail
  go_loopw [3, 9] (fun s v wr => ∃ (m : Nat) (A : Option Addr) (cp : Nat) (L : List (Ad × TbR)), m ≤ 32 ∧ v = nI m ∧ s = .slice A L.length cp ∧ Own W wr (tblL (.slice A L.length cp) L ++ (storeA S T :: l)) ∧ Same2 (L.map (·.2)) (tabsN T m)) (fun _ v _ => 32 - (intOf v).toNat)
  case atStart => exact ⟨0, none, 0, [], by omega, rfl, rfl, O1.out, rfl⟩
  case round =>
    clear O1 h
    obtain ⟨m, A, cp, L, hm, rfl, rfl, O2, hL⟩ := hrel
    by_cases hm32 : m < 32
    · have hm32i : (m : Int) < 32 := by omega
      obtain ⟨M, c, hTab, O3⟩ := store_open (O2.pull 2 rfl)
      obtain ⟨lS, sM, sc, sf, _⟩ := store_at O3
      have s0 := sc (m * 8) (by omega)
      have hT0 := hTab (m * 8) (by omega)
      rw [show m * 8 / 8 = m by omega, show m * 8 % 8 = 0 by omega, ← idsCs_map] at hT0
      rw [show (c (m * 8)).v = .slice (c (m * 8)).ad.1 (T m).length (c (m * 8)).ad.2 by unfold Col.v; rw [hT0.1]] at s0
      have hlen : (T m).length ≤ 90000 := Nat.le_trans (len_total T _ hm32) ht
      have hS : ∀ w', wr.Plus w' → Sl w' 3 (.slice (c (m * 8)).ad.1 (T m).length (c (m * 8)).ad.2) (T m).length (idsCs ((T m).map (·.id))) := fun w' p => by
        have h1 := (cols_pull (Own.at_plus O3 w' p) (j := m * 8) (by omega)).sl 0 rfl
        unfold Col.v at h1
        rw [hT0.1, hT0.2, show szc (m * 8) = 3 by unfold szc; rw [if_pos (by omega)]] at h1
        exact h1
      have hLl : L.length ≤ 32 := by
        have h1 := congrArg List.length (hL : L.map (·.2) = tabsN T m)
        rw [List.length_map] at h1
        have := tabsN_length T m
        omega
      by_cases h0 : (T m).length = 0
      · have hL2 : Same2 (L.map (·.2)) (tabsN T (m + 1)) := by
          rw [tabsN_succ, if_pos h0, List.append_nil]
          exact hL
        replace hL2 := Lib.hid hL2
        rw [h0] at s0
        clear hL hS hT0 hTab sc sf O3 sM
        replace O2 := Lib.hid O2
        go_wp2_with fail
        go_roundw
        case rel => exact ⟨m + 1, A, cp, L, hm32, by go_num, rfl, O2.out, hL2.out⟩
        case measure => simp [intOf]; omega
      · obtain ⟨g, o, hA, hgl, hc⟩ := (hS wr (Plus.refl _)).cellsOf (by omega)
        rw [hA] at s0 hS
        have h0i : (0 : Int) < (T m).length := by omega
        have kC := Lib.hid (clone_O O2 ⟨g, o, none⟩ (T m).length (c (m * 8)).ad.2 ((T m).map (·.id)) (by omega) (fun w' p => src_ids (hS w' p) (by simp)))
        have hL2 : ∀ a : Ad, Same2 ((L ++ [(a, ((m : Int), (T m).map (·.id)))]).map (·.2)) (tabsN T (m + 1)) := fun a => by
          rw [tabsN_succ, if_neg h0, List.map_append]
          show _ = _
          rw [show L.map (·.2) = tabsN T m from hL]
          rfl
        obtain ⟨ids, hids⟩ : ∃ ids, ids = (T m).map (·.id) := ⟨_, rfl⟩
        obtain ⟨n, hn⟩ : ∃ n, n = (T m).length := ⟨_, rfl⟩
        have hnl : n = ids.length := by rw [hids, hn, List.length_map]
        rw [← hids] at kC hL2
        rw [← hn] at s0 kC h0i hlen
        replace hL2 := Lib.hid hL2
        replace hnl := Lib.hid hnl
        clear hL hS hT0 hTab sc sf O3 sM hc hA hids hn h0 hgl
        replace O2 := Lib.hid O2
        have hd : decide (0 < n) = true := decide_eq_true (by omega)
        clear h0i
        go_upto_region 9 with fail
        go_upto_region 10 with (first | (go_at_call 58; (with_reducible refine kC.out.mono ?_); rintro e w5 ⟨A5, c5, rfl, O5⟩; have O5b := Lib.hid ((O5.alloc (.cells #[nI m, .slice A5 n c5] 103)).pull 1 rfl); have hS5 := Lib.hid (src_tb (w5.alloc (.cells #[nI m, .slice A5 n c5] 103)) w5.heap.size m (.slice A5 n c5) rfl (by simp [go_sem]) (by simp [go_sem]))) | (at_builtin; refine wpList_append_O rfl _ _ 86 86 rfl 103 i0 _ 2 32 underTbs hi0.out hz0.out hz1.out hz2.out rfl rfl (O5b.out) rfl hS5.out (by unfold maxLen; omega) (by omega) ?_; intro A6 c6 w6 O6))
        have O7 := (O6.pull 2 rfl).rot1
        rw [hnl.out] at O7
        have O8 := tbl_snoc (x := ((A5, c5), ((m : Int), ids))) O7 rfl
        replace hL2 := Lib.hid (hL2.out (A5, c5))
        have hll : (L ++ [((A5, c5), ((m : Int), ids))]).length = L.length + 1 := by simp
        replace O8 := Lib.hid O8
        replace hll := Lib.hid hll
        clear O5 O5b O6 O7 O2 hS5 kC s0 lS
        go_wp2_with fail
        go_roundw
        case rel => exact ⟨m + 1, A6, c6, L ++ [((A5, c5), ((m : Int), ids))], hm32, by go_num, by rw [hll.out], by rw [hll.out]; exact O8.out, hL2.out⟩
        case measure => simp [intOf]; omega
    · obtain rfl : m = 32 := by omega
      have hL2 := Lib.hid hL
      replace O2 := Lib.hid O2
      clear hL
      go_wp2_with fail
      go_ret
      exact ⟨A, cp, L, rfl, O2.out, hL2.out⟩
end Go.Proofs.Ytkdagljoiacaaaa
