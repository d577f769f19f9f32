/- codec: the reference's TakeBundles, TakeCmds, TakeIDs: walks. -/
import Derived.Test.YtjfjecjigakdnaaCodM
set_option linter.unusedSimpArgs false
set_option linter.unusedVariables false
namespace Go.Proofs.Ytjfjecjigakdnaa
open Go.RowKit
set_option maxHeartbeats 1000000
set_option maxRecDepth 100000
theorem refCount_O {W wx : World} {N : Nat} {s : ByteArray} {b : Bool} {l : List Asn} (h : Own W wx (Octs.rdA N s b :: l)) (hs : s.size ≤ 281474976710656) (hb : inv (s, b)) (most : Int) :
    Calls Try.prog 68 #[Octs.rdV N, nI most] wx (OwnTo W (nI (Octs.rCount s b most).1) (Octs.rdA N (Octs.rCount s b most).2.1 (Octs.rCount s b most).2.2 :: l)) := by
  have k1 := Octs.refRdInt_O h hs hb
  unfold Octs.rCount
  rcases h1 : Octs.rInt s b with ⟨n, s1, b1⟩
  rw [h1] at k1
  simp only at k1 ⊢
  replace k1 := Lib.hid k1
  clear hs hb h h1
  by_cases hn : n < 0
  · rw [if_pos (Or.inl hn)]
    go_enter Try.func68, Try.ntmps68
    go_wp2_with (first
      | (go_at_call 56; (with_reducible refine k1.out.mono ?_); clear k1; rintro e w1 ⟨rfl, O1⟩; have kB := Lib.hid (refBad_O O1); clear O1)
      | (go_at_call 57; (with_reducible refine kB.out.mono ?_); clear kB; rintro e w2 ⟨rfl, O2⟩))
    go_ret
    exact ⟨rfl, O2⟩
  · by_cases hm : most < n
    · rw [if_pos (Or.inr hm)]
      go_enter Try.func68, Try.ntmps68
      go_wp2_with (first
        | (go_at_call 56; (with_reducible refine k1.out.mono ?_); clear k1; rintro e w1 ⟨rfl, O1⟩; have kB := Lib.hid (refBad_O O1); clear O1)
        | (go_at_call 57; (with_reducible refine kB.out.mono ?_); clear kB; rintro e w2 ⟨rfl, O2⟩))
      go_ret
      exact ⟨rfl, O2⟩
    · rw [if_neg (by omega)]
      go_enter Try.func68, Try.ntmps68
      go_wp2_with (go_at_call 56; (with_reducible refine k1.out.mono ?_); clear k1; rintro e w1 ⟨rfl, O1⟩; replace O1 := Lib.hid O1)
      go_ret
      exact ⟨rfl, O1.out⟩
theorem refListI_O {W wx : World} {N : Nat} {s : ByteArray} {b : Bool} {l : List Asn} (h : Own W wx (Octs.rdA N s b :: l)) (hs : s.size ≤ 281474976710656) (hb : inv (s, b)) (most : Int) (hm : most ≤ 1048576) :
    Calls Try.prog 36 #[Octs.rdV N, nI most] wx fun e w' => ∃ A c, e = .returned (.slice A (readL tkI s b most).1.length c) ∧ Own W w' (slA 3 (.slice A (readL tkI s b most).1.length c) (readL tkI s b most).1.length ((readL tkI s b most).1.flatMap IdR.cs) :: Octs.rdA N (readL tkI s b most).2.1 (readL tkI s b most).2.2 :: l) := by
  have k1 := refCount_O h hs hb most
  have z1 := Octs.rCount_size s b most
  have v1 := Octs.rCount_inv s b most hb
  have c1 := rCount_most s b most 1048576 (by omega) hm
  have d1 := rCount_bad s b most
  obtain ⟨X, hX⟩ : ∃ X, X = readL tkI s b most := ⟨_, rfl⟩
  rw [← hX]
  unfold readL at hX
  rcases h1 : Octs.rCount s b most with ⟨n, s1, b1⟩
  rw [h1] at k1 z1 v1 c1 d1 hX
  simp only at k1 z1 v1 c1 d1 hX
  obtain ⟨m, rfl⟩ : ∃ m : Nat, n = m := ⟨n.toNat, by omega⟩
  rw [Int.toNat_natCast] at hX
  replace k1 := Lib.hid k1
  replace c1 : m ≤ 1048576 := by omega
  obtain ⟨i0, hi0, hz0, hz1, hz2⟩ := info_parts infoI
  replace hi0 := Lib.hid hi0
  replace hz0 := Lib.hid hz0
  replace hz1 := Lib.hid hz1
  replace hz2 := Lib.hid hz2
  replace hX : Hid (if b1 = true then X = ([], ⟨#[]⟩, true) ∧ s1 = ⟨#[]⟩ else X = tkL tkI m [] s1) := by
    cases b1 with
    | true => exact ⟨hX, v1 rfl⟩
    | false => exact hX
  have hs1 : Hid (s1.size ≤ 281474976710656) := Nat.le_trans z1 hs
  have hmi : (m : Int) ≤ 1048576 := by omega
  clear h1 z1 v1 d1 hs hb h hm
  go_enter Try.func36, Try.ntmps36
  go_upto_region 3 with (go_at_call 68; (with_reducible refine k1.out.mono ?_); clear k1; rintro e w1 ⟨rfl, O1⟩; replace O1 := Lib.hid (Own.nilSl O1 3))
  go_wp2_with fail
  go_loopw [5, 7] (fun lv i wr => ∃ (k : Nat) (A : Option Addr) (cp : Nat) (xs : List IdR) (s' : ByteArray) (b' : Bool), k ≤ m ∧ i = nI k ∧ lv = .slice A k cp ∧ Hid (xs.length = k) ∧ Hid (s'.size ≤ 281474976710656) ∧ Hid (Own W wr (slA 3 (.slice A k cp) k (xs.flatMap IdR.cs) :: Octs.rdA N s' b' :: l)) ∧ Hid (if b' = true then X = ([], ⟨#[]⟩, true) ∧ s' = ⟨#[]⟩ else X = tkL tkI (m - k) xs s')) (fun _ i _ => m - (intOf i).toNat)
  case atStart => exact ⟨0, none, 0, [], s1, b1, by omega, rfl, rfl, rfl, hs1, O1, hX⟩
  case round =>
    obtain ⟨k, A, cp, xs, s', b', hk, rfl, rfl, hxl, hs', O, hXk⟩ := hrel
    clear hX O1 hs1
    obtain ⟨lt, c0', c1', f0', f1'⟩ := Octs.Own.rd 1 O.out rfl
    haveI : InW N wr := ⟨lt⟩
    clear lt c0' f0' f1'
    cases b' with
    | true =>
      obtain ⟨hX1, hX2⟩ : X = ([], ⟨#[]⟩, true) ∧ s' = ⟨#[]⟩ := hXk.out
      subst hX1
      subst hX2
      clear hXk
      by_cases hlt : k < m
      · have hlti : (k : Int) < m := by omega
        go_wp2_with fail
        go_ret
        exact ⟨none, 0, rfl, Own.nilSl O.out.drop 3⟩
      · have hlti : ¬ (k : Int) < m := by omega
        go_wp2_with fail
        go_ret
        exact ⟨none, 0, rfl, Own.nilSl O.out.drop 3⟩
    | false =>
      by_cases hlt : k < m
      · have hlti : (k : Int) < m := by omega
        have hst : X = tkL tkI (m - k) xs s' := hXk.out
        rw [show m - k = (m - (k + 1)) + 1 by omega, tkL] at hst
        have kT := refTakeID_O O.out.rot1 hs'.out (by intro h; cases h)
        have zt := tkI_size s' false
        have vt := tkI_inv s' false
        rcases ht : tkI s' false with ⟨x, s2, b2⟩
        rw [ht] at kT zt vt hst
        simp only at kT zt vt hst
        replace kT := Lib.hid kT
        have hs2 := Nat.le_trans zt hs'.out
        have hkm : k < 1048576 := by omega
        clear hXk hs' zt O ht
        replace hst : Hid (if b2 = true then X = ([], ⟨#[]⟩, true) ∧ s2 = ⟨#[]⟩ else X = tkL tkI (m - (k + 1)) (xs ++ [x]) s2) := by
          cases b2 with
          | true => exact ⟨by rw [hst, if_pos rfl], vt rfl⟩
          | false => rw [if_neg (by simp)] at hst; exact hst
        replace hs2 := Lib.hid hs2
        clear vt
        go_upto_region 5 with (first
          | (go_at_call 20; (with_reducible refine kT.out.mono ?_); clear kT c1'; rintro e w3 ⟨rfl, O3⟩; have O4 := Lib.hid ((O3.newCells [nI x.s, nI x.i, nI x.g] 23).pull 2 rfl); have hS := Lib.hid (Src.ofCells (P := Try.prog) (size := 3) (k := 1) underI _ [nI x.s, nI x.i, nI x.g] rfl ((O3.newCells [nI x.s, nI x.i, nI x.g] 23).cells 0 rfl).2.1 (by simp [Value.oneCell']) 1))
          | (at_builtin; refine wpList_append_O rfl _ _ 57 57 rfl 23 i0 _ 3 24 underI hi0.out hz0.out hz1.out hz2.out rfl rfl O4.out rfl hS.out (by unfold maxLen; omega) (by omega) ?_; intro A6 c6 w6 O6; replace O6 := Lib.hid O6.rot1.drop))
        clear O3 O4 hS
        go_wp2_with fail
        go_roundw
        case rel => exact ⟨k + 1, A6, c6, xs ++ [x], s2, b2, hlt, by go_num, rfl, (show (xs ++ [x]).length = k + 1 by rw [List.length_append, List.length_singleton, hxl.out]), hs2, (show Own W _ _ by rw [flat_snoc]; exact O6.out), hst⟩
        case measure => simp [intOf]; omega
      · obtain rfl : k = m := by omega
        have hkk : ¬ (k : Int) < k := by omega
        have hst : X = tkL tkI (k - k) xs s' := hXk.out
        rw [Nat.sub_self, tkL] at hst
        clear hXk
        subst hst
        go_wp2_with fail
        go_ret
        have hxe := hxl.out
        clear hxl
        subst hxe
        exact ⟨A, cp, rfl, O.out⟩
theorem refListB_O {W wx : World} {N : Nat} {s : ByteArray} {b : Bool} {l : List Asn} (h : Own W wx (Octs.rdA N s b :: l)) (hs : s.size ≤ 281474976710656) (hb : inv (s, b)) (most : Int) (hm : most ≤ 1048576) :
    Calls Try.prog 30 #[Octs.rdV N, nI most] wx fun e w' => ∃ A c, e = .returned (.slice A (readL tkB s b most).1.length c) ∧ Own W w' (slA 11 (.slice A (readL tkB s b most).1.length c) (readL tkB s b most).1.length ((readL tkB s b most).1.flatMap BdR.cs) :: Octs.rdA N (readL tkB s b most).2.1 (readL tkB s b most).2.2 :: l) := by
  have k1 := refCount_O h hs hb most
  have z1 := Octs.rCount_size s b most
  have v1 := Octs.rCount_inv s b most hb
  have c1 := rCount_most s b most 1048576 (by omega) hm
  have d1 := rCount_bad s b most
  obtain ⟨X, hX⟩ : ∃ X, X = readL tkB s b most := ⟨_, rfl⟩
  rw [← hX]
  unfold readL at hX
  rcases h1 : Octs.rCount s b most with ⟨n, s1, b1⟩
  rw [h1] at k1 z1 v1 c1 d1 hX
  simp only at k1 z1 v1 c1 d1 hX
  obtain ⟨m, rfl⟩ : ∃ m : Nat, n = m := ⟨n.toNat, by omega⟩
  rw [Int.toNat_natCast] at hX
  replace k1 := Lib.hid k1
  replace c1 : m ≤ 1048576 := by omega
  obtain ⟨i0, hi0, hz0, hz1, hz2⟩ := info_parts infoB
  replace hi0 := Lib.hid hi0
  replace hz0 := Lib.hid hz0
  replace hz1 := Lib.hid hz1
  replace hz2 := Lib.hid hz2
  replace hX : Hid (if b1 = true then X = ([], ⟨#[]⟩, true) ∧ s1 = ⟨#[]⟩ else X = tkL tkB m [] s1) := by
    cases b1 with
    | true => exact ⟨hX, v1 rfl⟩
    | false => exact hX
  have hs1 : Hid (s1.size ≤ 281474976710656) := Nat.le_trans z1 hs
  have hmi : (m : Int) ≤ 1048576 := by omega
  clear h1 z1 v1 d1 hs hb h hm
  go_enter Try.func30, Try.ntmps30
  go_upto_region 3 with (go_at_call 68; (with_reducible refine k1.out.mono ?_); clear k1; rintro e w1 ⟨rfl, O1⟩; replace O1 := Lib.hid (Own.nilSl O1 11))
  go_wp2_with fail
  go_loopw [5, 7] (fun lv i wr => ∃ (k : Nat) (A : Option Addr) (cp : Nat) (xs : List BdR) (s' : ByteArray) (b' : Bool), k ≤ m ∧ i = nI k ∧ lv = .slice A k cp ∧ Hid (xs.length = k) ∧ Hid (s'.size ≤ 281474976710656) ∧ Hid (Own W wr (slA 11 (.slice A k cp) k (xs.flatMap BdR.cs) :: Octs.rdA N s' b' :: l)) ∧ Hid (if b' = true then X = ([], ⟨#[]⟩, true) ∧ s' = ⟨#[]⟩ else X = tkL tkB (m - k) xs s')) (fun _ i _ => m - (intOf i).toNat)
  case atStart => exact ⟨0, none, 0, [], s1, b1, by omega, rfl, rfl, rfl, hs1, O1, hX⟩
  case round =>
    obtain ⟨k, A, cp, xs, s', b', hk, rfl, rfl, hxl, hs', O, hXk⟩ := hrel
    clear hX O1 hs1
    obtain ⟨lt, c0', c1', f0', f1'⟩ := Octs.Own.rd 1 O.out rfl
    haveI : InW N wr := ⟨lt⟩
    clear lt c0' f0' f1'
    cases b' with
    | true =>
      obtain ⟨hX1, hX2⟩ : X = ([], ⟨#[]⟩, true) ∧ s' = ⟨#[]⟩ := hXk.out
      subst hX1
      subst hX2
      clear hXk
      by_cases hlt : k < m
      · have hlti : (k : Int) < m := by omega
        go_wp2_with fail
        go_ret
        exact ⟨none, 0, rfl, Own.nilSl O.out.drop 11⟩
      · have hlti : ¬ (k : Int) < m := by omega
        go_wp2_with fail
        go_ret
        exact ⟨none, 0, rfl, Own.nilSl O.out.drop 11⟩
    | false =>
      by_cases hlt : k < m
      · have hlti : (k : Int) < m := by omega
        have hst : X = tkL tkB (m - k) xs s' := hXk.out
        rw [show m - k = (m - (k + 1)) + 1 by omega, tkL] at hst
        have kT := refTakeBundle_O O.out.rot1 hs'.out (by intro h; cases h)
        have zt := tkB_size s' false
        have vt := tkB_inv s' false
        rcases ht : tkB s' false with ⟨x, s2, b2⟩
        rw [ht] at kT zt vt hst
        simp only at kT zt vt hst
        replace kT := Lib.hid kT
        have hs2 := Nat.le_trans zt hs'.out
        have hkm : k < 1048576 := by omega
        clear hXk hs' zt O ht
        replace hst : Hid (if b2 = true then X = ([], ⟨#[]⟩, true) ∧ s2 = ⟨#[]⟩ else X = tkL tkB (m - (k + 1)) (xs ++ [x]) s2) := by
          cases b2 with
          | true => exact ⟨by rw [hst, if_pos rfl], vt rfl⟩
          | false => rw [if_neg (by simp)] at hst; exact hst
        replace hs2 := Lib.hid hs2
        clear vt
        go_upto_region 5 with (first
          | (go_at_call 23; (with_reducible refine kT.out.mono ?_); clear kT c1'; rintro e w3 ⟨rfl, O3⟩; have O4 := Lib.hid ((O3.newCells [nI x.id.s, nI x.id.i, nI x.id.g, nI x.mask, nI x.x, nI x.y, nI x.vx, nI x.vy, nI x.hp, nI x.pw, nI x.lf] 25).pull 2 rfl); have hS := Lib.hid (Src.ofCells (P := Try.prog) (size := 11) (k := 1) underB _ [nI x.id.s, nI x.id.i, nI x.id.g, nI x.mask, nI x.x, nI x.y, nI x.vx, nI x.vy, nI x.hp, nI x.pw, nI x.lf] rfl ((O3.newCells [nI x.id.s, nI x.id.i, nI x.id.g, nI x.mask, nI x.x, nI x.y, nI x.vx, nI x.vy, nI x.hp, nI x.pw, nI x.lf] 25).cells 0 rfl).2.1 (by simp [Value.oneCell']) 1))
          | (at_builtin; refine wpList_append_O rfl _ _ 46 46 rfl 25 i0 _ 11 88 underB hi0.out hz0.out hz1.out hz2.out rfl rfl O4.out rfl hS.out (by unfold maxLen; omega) (by omega) ?_; intro A6 c6 w6 O6; replace O6 := Lib.hid O6.rot1.drop))
        clear O3 O4 hS
        go_wp2_with fail
        go_roundw
        case rel => exact ⟨k + 1, A6, c6, xs ++ [x], s2, b2, hlt, by go_num, rfl, (show (xs ++ [x]).length = k + 1 by rw [List.length_append, List.length_singleton, hxl.out]), hs2, (show Own W _ _ by rw [flat_snoc]; exact O6.out), hst⟩
        case measure => simp [intOf]; omega
      · obtain rfl : k = m := by omega
        have hkk : ¬ (k : Int) < k := by omega
        have hst : X = tkL tkB (k - k) xs s' := hXk.out
        rw [Nat.sub_self, tkL] at hst
        clear hXk
        subst hst
        go_wp2_with fail
        go_ret
        have hxe := hxl.out
        clear hxl
        subst hxe
        exact ⟨A, cp, rfl, O.out⟩
theorem refListC_O {W wx : World} {N : Nat} {s : ByteArray} {b : Bool} {l : List Asn} (h : Own W wx (Octs.rdA N s b :: l)) (hs : s.size ≤ 281474976710656) (hb : inv (s, b)) (most : Int) (hm : most ≤ 1048576) :
    Calls Try.prog 33 #[Octs.rdV N, nI most] wx fun e w' => ∃ A c, e = .returned (.slice A (readL tkC s b most).1.length c) ∧ Own W w' (slA 16 (.slice A (readL tkC s b most).1.length c) (readL tkC s b most).1.length ((readL tkC s b most).1.flatMap CmdR.cs) :: Octs.rdA N (readL tkC s b most).2.1 (readL tkC s b most).2.2 :: l) := by
  have k1 := refCount_O h hs hb most
  have z1 := Octs.rCount_size s b most
  have v1 := Octs.rCount_inv s b most hb
  have c1 := rCount_most s b most 1048576 (by omega) hm
  have d1 := rCount_bad s b most
  obtain ⟨X, hX⟩ : ∃ X, X = readL tkC s b most := ⟨_, rfl⟩
  rw [← hX]
  unfold readL at hX
  rcases h1 : Octs.rCount s b most with ⟨n, s1, b1⟩
  rw [h1] at k1 z1 v1 c1 d1 hX
  simp only at k1 z1 v1 c1 d1 hX
  obtain ⟨m, rfl⟩ : ∃ m : Nat, n = m := ⟨n.toNat, by omega⟩
  rw [Int.toNat_natCast] at hX
  replace k1 := Lib.hid k1
  replace c1 : m ≤ 1048576 := by omega
  obtain ⟨i0, hi0, hz0, hz1, hz2⟩ := info_parts infoC
  replace hi0 := Lib.hid hi0
  replace hz0 := Lib.hid hz0
  replace hz1 := Lib.hid hz1
  replace hz2 := Lib.hid hz2
  replace hX : Hid (if b1 = true then X = ([], ⟨#[]⟩, true) ∧ s1 = ⟨#[]⟩ else X = tkL tkC m [] s1) := by
    cases b1 with
    | true => exact ⟨hX, v1 rfl⟩
    | false => exact hX
  have hs1 : Hid (s1.size ≤ 281474976710656) := Nat.le_trans z1 hs
  have hmi : (m : Int) ≤ 1048576 := by omega
  clear h1 z1 v1 d1 hs hb h hm
  go_enter Try.func33, Try.ntmps33
  go_upto_region 3 with (go_at_call 68; (with_reducible refine k1.out.mono ?_); clear k1; rintro e w1 ⟨rfl, O1⟩; replace O1 := Lib.hid (Own.nilSl O1 16))
  go_wp2_with fail
  go_loopw [5, 7] (fun lv i wr => ∃ (k : Nat) (A : Option Addr) (cp : Nat) (xs : List CmdR) (s' : ByteArray) (b' : Bool), k ≤ m ∧ i = nI k ∧ lv = .slice A k cp ∧ Hid (xs.length = k) ∧ Hid (s'.size ≤ 281474976710656) ∧ Hid (Own W wr (slA 16 (.slice A k cp) k (xs.flatMap CmdR.cs) :: Octs.rdA N s' b' :: l)) ∧ Hid (if b' = true then X = ([], ⟨#[]⟩, true) ∧ s' = ⟨#[]⟩ else X = tkL tkC (m - k) xs s')) (fun _ i _ => m - (intOf i).toNat)
  case atStart => exact ⟨0, none, 0, [], s1, b1, by omega, rfl, rfl, rfl, hs1, O1, hX⟩
  case round =>
    obtain ⟨k, A, cp, xs, s', b', hk, rfl, rfl, hxl, hs', O, hXk⟩ := hrel
    clear hX O1 hs1
    obtain ⟨lt, c0', c1', f0', f1'⟩ := Octs.Own.rd 1 O.out rfl
    haveI : InW N wr := ⟨lt⟩
    clear lt c0' f0' f1'
    cases b' with
    | true =>
      obtain ⟨hX1, hX2⟩ : X = ([], ⟨#[]⟩, true) ∧ s' = ⟨#[]⟩ := hXk.out
      subst hX1
      subst hX2
      clear hXk
      by_cases hlt : k < m
      · have hlti : (k : Int) < m := by omega
        go_wp2_with fail
        go_ret
        exact ⟨none, 0, rfl, Own.nilSl O.out.drop 16⟩
      · have hlti : ¬ (k : Int) < m := by omega
        go_wp2_with fail
        go_ret
        exact ⟨none, 0, rfl, Own.nilSl O.out.drop 16⟩
    | false =>
      by_cases hlt : k < m
      · have hlti : (k : Int) < m := by omega
        have hst : X = tkL tkC (m - k) xs s' := hXk.out
        rw [show m - k = (m - (k + 1)) + 1 by omega, tkL] at hst
        have kT := refTakeCmd_O O.out.rot1 hs'.out (by intro h; cases h)
        have zt := tkC_size s' false
        have vt := tkC_inv s' false
        rcases ht : tkC s' false with ⟨x, s2, b2⟩
        rw [ht] at kT zt vt hst
        simp only at kT zt vt hst
        replace kT := Lib.hid kT
        have hs2 := Nat.le_trans zt hs'.out
        have hkm : k < 1048576 := by omega
        clear hXk hs' zt O ht
        replace hst : Hid (if b2 = true then X = ([], ⟨#[]⟩, true) ∧ s2 = ⟨#[]⟩ else X = tkL tkC (m - (k + 1)) (xs ++ [x]) s2) := by
          cases b2 with
          | true => exact ⟨by rw [hst, if_pos rfl], vt rfl⟩
          | false => rw [if_neg (by simp)] at hst; exact hst
        replace hs2 := Lib.hid hs2
        clear vt
        go_upto_region 5 with (first
          | (go_at_call 25; (with_reducible refine kT.out.mono ?_); clear kT c1'; rintro e w3 ⟨rfl, O3⟩; have O4 := Lib.hid ((O3.newCells [nI x.kind, nI x.id.s, nI x.id.i, nI x.id.g, nI x.b.id.s, nI x.b.id.i, nI x.b.id.g, nI x.b.mask, nI x.b.x, nI x.b.y, nI x.b.vx, nI x.b.vy, nI x.b.hp, nI x.b.pw, nI x.b.lf, nI x.mask] 27).pull 2 rfl); have hS := Lib.hid (Src.ofCells (P := Try.prog) (size := 16) (k := 1) underC _ [nI x.kind, nI x.id.s, nI x.id.i, nI x.id.g, nI x.b.id.s, nI x.b.id.i, nI x.b.id.g, nI x.b.mask, nI x.b.x, nI x.b.y, nI x.b.vx, nI x.b.vy, nI x.b.hp, nI x.b.pw, nI x.b.lf, nI x.mask] rfl ((O3.newCells [nI x.kind, nI x.id.s, nI x.id.i, nI x.id.g, nI x.b.id.s, nI x.b.id.i, nI x.b.id.g, nI x.b.mask, nI x.b.x, nI x.b.y, nI x.b.vx, nI x.b.vy, nI x.b.hp, nI x.b.pw, nI x.b.lf, nI x.mask] 27).cells 0 rfl).2.1 (by simp [Value.oneCell']) 1))
          | (at_builtin; refine wpList_append_O rfl _ _ 53 53 rfl 27 i0 _ 16 128 underC hi0.out hz0.out hz1.out hz2.out rfl rfl O4.out rfl hS.out (by unfold maxLen; omega) (by omega) ?_; intro A6 c6 w6 O6; replace O6 := Lib.hid O6.rot1.drop))
        clear O3 O4 hS
        go_wp2_with fail
        go_roundw
        case rel => exact ⟨k + 1, A6, c6, xs ++ [x], s2, b2, hlt, by go_num, rfl, (show (xs ++ [x]).length = k + 1 by rw [List.length_append, List.length_singleton, hxl.out]), hs2, (show Own W _ _ by rw [flat_snoc]; exact O6.out), hst⟩
        case measure => simp [intOf]; omega
      · obtain rfl : k = m := by omega
        have hkk : ¬ (k : Int) < k := by omega
        have hst : X = tkL tkC (k - k) xs s' := hXk.out
        rw [Nat.sub_self, tkL] at hst
        clear hXk
        subst hst
        go_wp2_with fail
        go_ret
        have hxe := hxl.out
        clear hxl
        subst hxe
        exact ⟨A, cp, rfl, O.out⟩
end Go.Proofs.Ytjfjecjigakdnaa
