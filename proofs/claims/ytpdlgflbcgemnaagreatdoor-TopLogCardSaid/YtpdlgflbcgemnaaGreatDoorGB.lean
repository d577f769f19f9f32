/- Plain laws and walks: CodM, CodMr. -/
import Derived.Test.YtpdlgflbcgemnaaGreatDoorCodMP
import Derived.Test.YtpdlgflbcgemnaaGreatDoorGA
-- CodM
/- codec: TakeList: walks. -/
set_option linter.unusedSimpArgs false
set_option linter.unusedVariables false
namespace Go.Proofs.YtpdlgflbcgemnaaGreatDoor
open Go.RowKit
set_option maxHeartbeats 1000000
set_option maxRecDepth 100000
theorem Own.nilSl {W w : World} {l : List Asn} (h : Own W w l) (size : Nat) : Own W w (slA size (.slice none 0 0) 0 [] :: l) :=
  Own.add h (Chg.refl _ _) (Q := slA size (.slice none 0 0) 0 []) (A := fun _ => False) ⟨fun k => by simp [Value.ownBlock], Sl.nil _ _⟩ (fun _ h => h.elim)
theorem underI : Tryz.prog.underlying 37 = some (.slice 73) := by kernel_rfl
theorem infoI : (Tryz.prog.info? 73).map (fun i => (i.zero, i.size, i.bytes)) = some (some (.agg #[nI 0, nI 0, nI 0]), 3, 24) := by kernel_rfl
theorem takeListI_O {W wx : World} {N : Nat} {s : ByteArray} {b : Bool} {l : List Asn} (h : Own W wx (Octs.rdA N s b :: l)) (hs : s.size ≤ 281474976710656) (hb : inv (s, b)) (most : Int) (hm : most ≤ 1048576) :
    Calls Tryz.prog 45 #[Octs.rdV N, nI most, .func (.func 46) #[] #[]] wx fun e w' => ∃ A c, e = .returned (.slice A (readL tkI s b most).1.length c) ∧ Own W w' (slA 3 (.slice A (readL tkI s b most).1.length c) (readL tkI s b most).1.length ((readL tkI s b most).1.flatMap IdR.cs) :: Octs.rdA N (readL tkI s b most).2.1 (readL tkI s b most).2.2 :: l) := by
  have k1 := rdCount_O h hs most
  have z1 := Octs.rCount_size s b most
  have v1 := Octs.rCount_inv s b most hb
  have c1 := rCount_most s b most 1048576 (by omega) hm
  have d1 := rCount_bad s b most
  obtain ⟨X, hX⟩ : ∃ X, X = readL tkI s b most := ⟨_, rfl⟩
  rw [← hX]
  unfold readL at hX
  rcases h1 : Octs.rCount s b most with ⟨n, s1, b1⟩
  rw [h1] at k1 z1 v1 c1 d1 hX
  simp only at k1 z1 v1 c1 d1 hX
  obtain ⟨m, rfl⟩ : ∃ m : Nat, n = m := ⟨n.toNat, by omega⟩
  rw [Int.toNat_natCast] at hX
  replace k1 := Lib.hid k1
  replace c1 : m ≤ 1048576 := by omega
  obtain ⟨i0, hi0, hz0, hz1, hz2⟩ := info_parts infoI
  replace hi0 := Lib.hid hi0
  replace hz0 := Lib.hid hz0
  replace hz1 := Lib.hid hz1
  replace hz2 := Lib.hid hz2
  cases b1 with
  | true =>
    obtain rfl : m = 0 := by have := d1 rfl; omega
    obtain rfl := v1 rfl
    rw [if_pos rfl] at hX
    subst hX
    clear h1 z1 v1 d1 hs hb h hm
    go_enter Tryz.func45, Tryz.ntmps45
    go_upto_region 3 with (go_at_call 76; (with_reducible refine k1.out.mono ?_); clear k1; rintro e w1 ⟨rfl, O1⟩; replace O1 := Lib.hid O1)
    go_loopw [7, 11] (fun lv i wr => lv = .slice none 0 0 ∧ i = nI 0 ∧ wr = w1) (fun _ i _ => 0)
    case atStart => exact ⟨rfl, rfl, rfl⟩
    case round =>
      obtain ⟨rfl, rfl, rfl⟩ := hrel
      go_wp2_with fail
      go_ret
      exact ⟨none, 0, rfl, Own.nilSl O1.out 3⟩
  | false =>
    rw [if_neg (by simp)] at hX
    have hs1 : s1.size ≤ 281474976710656 := by omega
    have kL := fun wz l' s' (hz : s'.size ≤ 281474976710656) (O : Own W wz (slA 3 (l' : Value × Nat × List Value).1 l'.2.1 l'.2.2 :: Octs.rdA N s' false :: l)) => Octs.rdLeft wz N s' false (Octs.Own.rd 1 O rfl) hz
    have hmi : (m : Int) ≤ 1048576 := by omega
    replace hs1 := Lib.hid hs1
    clear h1 z1 v1 d1 hs hb h hm
    go_enter Tryz.func45, Tryz.ntmps45
    go_upto_region 3 with (go_at_call 76; (with_reducible refine k1.out.mono ?_); clear k1; rintro e w1 ⟨rfl, O1⟩; replace O1 := Lib.hid (Own.nilSl O1 3))
    go_loopw [7, 11] (fun lv i wr => ∃ (k : Nat) (A : Option Addr) (cp : Nat) (xs : List IdR) (s' : ByteArray), k ≤ m ∧ i = nI k ∧ lv = .slice A k cp ∧ Hid (xs.length = k) ∧ Hid (s'.size ≤ 281474976710656) ∧ Hid (Own W wr (slA 3 (.slice A k cp) k (xs.flatMap IdR.cs) :: Octs.rdA N s' false :: l)) ∧ Hid (X = tkL tkI (m - k) xs s')) (fun _ i _ => m - (intOf i).toNat)
    case atStart => exact ⟨0, none, 0, [], s1, by omega, rfl, rfl, rfl, hs1, O1, hX⟩
    case round =>
      obtain ⟨k, A, cp, xs, s', hk, rfl, rfl, hxl, hs', O, hXk⟩ := hrel
      clear hX O1 hs1
      by_cases hlt : k < m
      · have hlti : (k : Int) < m := by omega
        have hst := hXk.out
        rw [show m - k = (m - (k + 1)) + 1 by omega, tkL] at hst
        have kl := Lib.hid (kL _ (_, _, _) s' hs'.out O.out)
        clear kL
        by_cases hz : s'.size = 0
        · have hs0 : s' = ⟨#[]⟩ := Octs.empty_of_size hz
          subst hs0
          have hzi : ¬ (0 : Int) < ((⟨#[]⟩ : ByteArray).size : Nat) := by decide
          rw [tkI_none, if_pos rfl] at hst
          subst hst
          have kS := Lib.hid (fun wz (p : wr.Plus wz) => spoil_O ((Own.atP O.out wz p).rot1) (by decide))
          clear hz hXk hxl hs'
          go_wp2_with (first
            | (go_at_call 77; (with_reducible refine kl.out.mono ?_); clear kl; rintro e w2 ⟨rfl, e2, rfl⟩)
            | (go_at_call 76; (with_reducible refine (kS.out _ (by (repeat (first | exact Plus.refl _ | apply Plus.plus | apply Plus.alloc | apply Plus.drew)))).mono ?_); clear kS; rintro e w3 ⟨rfl, O3⟩; have kB := Lib.hid (bad_O O3 0 rfl (by decide) (fun _ => rfl)); replace O3 := Lib.hid O3)
            | (go_at_call 78; (with_reducible refine kB.out.mono ?_); clear kB; rintro e w4 ⟨rfl, e4, rfl⟩))
          go_ret
          exact ⟨none, 0, rfl, Own.nilSl ((O3.out.rot1.drop).plus e4) 3⟩
        · have hzi : (0 : Int) < (s'.size : Nat) := by omega
          have kT := fun wz (p : wr.Plus wz) => takeID_O ((Own.atP O.out wz p).rot1) hs'.out (by intro h; cases h)
          have zt := tkI_size s' false
          have vt := tkI_inv s' false
          rcases ht : tkI s' false with ⟨x, s2, b2⟩
          rw [ht] at kT zt vt hst
          simp only at kT zt vt hst
          replace kT := Lib.hid kT
          have hs2 := Nat.le_trans zt hs'.out
          replace hxl := hxl.out
          have hkm : k < 1048576 := by omega
          clear hz hXk hs' zt
          replace hxl := Lib.hid hxl
          have kB := Lib.hid (fun wz l' (O : Own W wz (slA 3 (l' : Value × Nat × List Value).1 l'.2.1 l'.2.2 :: Octs.rdA N s2 b2 :: l)) => bad_O O 1 rfl hs2 vt)
          replace hst := Lib.hid hst
          replace vt := Lib.hid vt
          replace hs2 := Lib.hid hs2
          go_upto_region 7 with (first
            | (go_at_call 77; (with_reducible refine kl.out.mono ?_); clear kl; rintro e w2 ⟨rfl, e2, rfl⟩)
            | (go_at_call 46; (with_reducible refine (kT.out _ (by (repeat (first | exact Plus.refl _ | apply Plus.plus | apply Plus.alloc | apply Plus.drew)))).mono ?_); clear kT; rintro e w3 ⟨rfl, O3⟩; have O4 := Lib.hid ((O3.newCells [nI x.s, nI x.i, nI x.g] 73).pull 2 rfl); have hS := Lib.hid (Src.ofCells (P := Tryz.prog) (size := 3) (k := 1) underI _ [nI x.s, nI x.i, nI x.g] rfl ((O3.newCells [nI x.s, nI x.i, nI x.g] 73).cells 0 rfl).2.1 (by simp [Value.oneCell']) 1))
            | (at_builtin; refine wpList_append_O rfl _ _ 37 37 rfl 73 i0 _ 3 24 underI hi0.out hz0.out hz1.out hz2.out rfl rfl O4.out rfl hS.out (by unfold maxLen; omega) (by omega) ?_; intro A6 c6 w6 O6; have k6 := Lib.hid (kB.out _ (_, _, _) O6.rot1.drop); replace O6 := Lib.hid O6.rot1.drop))
          clear O3 O4 hS kB O
          cases b2 with
          | true =>
            have hst' := hst.out
            rw [if_pos rfl] at hst'
            subst hst'
            obtain rfl := vt.out rfl
            go_wp2_with (go_at_call 78; (with_reducible refine k6.out.mono ?_); clear k6; rintro e w4 ⟨rfl, e4, rfl⟩)
            go_ret
            exact ⟨none, 0, rfl, Own.nilSl ((O6.out.drop).plus e4) 3⟩
          | false =>
            have hst' := hst.out
            rw [if_neg (by simp)] at hst'
            replace hst' := Lib.hid hst'
            clear hst
            go_wp2_with (go_at_call 78; (with_reducible refine k6.out.mono ?_); clear k6; rintro e w4 ⟨rfl, e4, rfl⟩)
            go_roundw
            case rel => exact ⟨k + 1, A6, c6, xs ++ [x], s2, hlt, by go_num, rfl, (show (xs ++ [x]).length = k + 1 by rw [List.length_append, List.length_singleton, hxl.out]), hs2, (show Own W _ _ by rw [flat_snoc]; exact O6.out.plus e4), hst'⟩
            case measure => simp [intOf]; omega
      · obtain rfl : k = m := by omega
        have hkk : ¬ (k : Int) < k := by omega
        go_wp2_with fail
        go_ret
        have hst := hXk.out
        rw [Nat.sub_self, tkL] at hst
        subst hst
        have hxe := hxl.out
        clear hxl
        subst hxe
        exact ⟨A, cp, rfl, O.out⟩
theorem underB : Tryz.prog.underlying 36 = some (.slice 75) := by kernel_rfl
theorem infoB : (Tryz.prog.info? 75).map (fun i => (i.zero, i.size, i.bytes)) = some (some (.agg #[nI 0, nI 0, nI 0, nI 0, nI 0, nI 0, nI 0, nI 0, nI 0, nI 0, nI 0]), 11, 88) := by kernel_rfl
theorem takeListB_O {W wx : World} {N : Nat} {s : ByteArray} {b : Bool} {l : List Asn} (h : Own W wx (Octs.rdA N s b :: l)) (hs : s.size ≤ 281474976710656) (hb : inv (s, b)) (most : Int) (hm : most ≤ 1048576) :
    Calls Tryz.prog 43 #[Octs.rdV N, nI most, .func (.func 44) #[] #[]] wx fun e w' => ∃ A c, e = .returned (.slice A (readL tkB s b most).1.length c) ∧ Own W w' (slA 11 (.slice A (readL tkB s b most).1.length c) (readL tkB s b most).1.length ((readL tkB s b most).1.flatMap BdR.cs) :: Octs.rdA N (readL tkB s b most).2.1 (readL tkB s b most).2.2 :: l) := by
  have k1 := rdCount_O h hs most
  have z1 := Octs.rCount_size s b most
  have v1 := Octs.rCount_inv s b most hb
  have c1 := rCount_most s b most 1048576 (by omega) hm
  have d1 := rCount_bad s b most
  obtain ⟨X, hX⟩ : ∃ X, X = readL tkB s b most := ⟨_, rfl⟩
  rw [← hX]
  unfold readL at hX
  rcases h1 : Octs.rCount s b most with ⟨n, s1, b1⟩
  rw [h1] at k1 z1 v1 c1 d1 hX
  simp only at k1 z1 v1 c1 d1 hX
  obtain ⟨m, rfl⟩ : ∃ m : Nat, n = m := ⟨n.toNat, by omega⟩
  rw [Int.toNat_natCast] at hX
  replace k1 := Lib.hid k1
  replace c1 : m ≤ 1048576 := by omega
  obtain ⟨i0, hi0, hz0, hz1, hz2⟩ := info_parts infoB
  replace hi0 := Lib.hid hi0
  replace hz0 := Lib.hid hz0
  replace hz1 := Lib.hid hz1
  replace hz2 := Lib.hid hz2
  cases b1 with
  | true =>
    obtain rfl : m = 0 := by have := d1 rfl; omega
    obtain rfl := v1 rfl
    rw [if_pos rfl] at hX
    subst hX
    clear h1 z1 v1 d1 hs hb h hm
    go_enter Tryz.func43, Tryz.ntmps43
    go_upto_region 3 with (go_at_call 76; (with_reducible refine k1.out.mono ?_); clear k1; rintro e w1 ⟨rfl, O1⟩; replace O1 := Lib.hid O1)
    go_loopw [7, 11] (fun lv i wr => lv = .slice none 0 0 ∧ i = nI 0 ∧ wr = w1) (fun _ i _ => 0)
    case atStart => exact ⟨rfl, rfl, rfl⟩
    case round =>
      obtain ⟨rfl, rfl, rfl⟩ := hrel
      go_wp2_with fail
      go_ret
      exact ⟨none, 0, rfl, Own.nilSl O1.out 11⟩
  | false =>
    rw [if_neg (by simp)] at hX
    have hs1 : s1.size ≤ 281474976710656 := by omega
    have kL := fun wz l' s' (hz : s'.size ≤ 281474976710656) (O : Own W wz (slA 11 (l' : Value × Nat × List Value).1 l'.2.1 l'.2.2 :: Octs.rdA N s' false :: l)) => Octs.rdLeft wz N s' false (Octs.Own.rd 1 O rfl) hz
    have hmi : (m : Int) ≤ 1048576 := by omega
    replace hs1 := Lib.hid hs1
    clear h1 z1 v1 d1 hs hb h hm
    go_enter Tryz.func43, Tryz.ntmps43
    go_upto_region 3 with (go_at_call 76; (with_reducible refine k1.out.mono ?_); clear k1; rintro e w1 ⟨rfl, O1⟩; replace O1 := Lib.hid (Own.nilSl O1 11))
    go_loopw [7, 11] (fun lv i wr => ∃ (k : Nat) (A : Option Addr) (cp : Nat) (xs : List BdR) (s' : ByteArray), k ≤ m ∧ i = nI k ∧ lv = .slice A k cp ∧ Hid (xs.length = k) ∧ Hid (s'.size ≤ 281474976710656) ∧ Hid (Own W wr (slA 11 (.slice A k cp) k (xs.flatMap BdR.cs) :: Octs.rdA N s' false :: l)) ∧ Hid (X = tkL tkB (m - k) xs s')) (fun _ i _ => m - (intOf i).toNat)
    case atStart => exact ⟨0, none, 0, [], s1, by omega, rfl, rfl, rfl, hs1, O1, hX⟩
    case round =>
      obtain ⟨k, A, cp, xs, s', hk, rfl, rfl, hxl, hs', O, hXk⟩ := hrel
      clear hX O1 hs1
      by_cases hlt : k < m
      · have hlti : (k : Int) < m := by omega
        have hst := hXk.out
        rw [show m - k = (m - (k + 1)) + 1 by omega, tkL] at hst
        have kl := Lib.hid (kL _ (_, _, _) s' hs'.out O.out)
        clear kL
        by_cases hz : s'.size = 0
        · have hs0 : s' = ⟨#[]⟩ := Octs.empty_of_size hz
          subst hs0
          have hzi : ¬ (0 : Int) < ((⟨#[]⟩ : ByteArray).size : Nat) := by decide
          rw [tkB_none, if_pos rfl] at hst
          subst hst
          have kS := Lib.hid (fun wz (p : wr.Plus wz) => spoil_O ((Own.atP O.out wz p).rot1) (by decide))
          clear hz hXk hxl hs'
          go_wp2_with (first
            | (go_at_call 77; (with_reducible refine kl.out.mono ?_); clear kl; rintro e w2 ⟨rfl, e2, rfl⟩)
            | (go_at_call 76; (with_reducible refine (kS.out _ (by (repeat (first | exact Plus.refl _ | apply Plus.plus | apply Plus.alloc | apply Plus.drew)))).mono ?_); clear kS; rintro e w3 ⟨rfl, O3⟩; have kB := Lib.hid (bad_O O3 0 rfl (by decide) (fun _ => rfl)); replace O3 := Lib.hid O3)
            | (go_at_call 78; (with_reducible refine kB.out.mono ?_); clear kB; rintro e w4 ⟨rfl, e4, rfl⟩))
          go_ret
          exact ⟨none, 0, rfl, Own.nilSl ((O3.out.rot1.drop).plus e4) 11⟩
        · have hzi : (0 : Int) < (s'.size : Nat) := by omega
          have kT := fun wz (p : wr.Plus wz) => takeBundle_O ((Own.atP O.out wz p).rot1) hs'.out (by intro h; cases h)
          have zt := tkB_size s' false
          have vt := tkB_inv s' false
          rcases ht : tkB s' false with ⟨x, s2, b2⟩
          rw [ht] at kT zt vt hst
          simp only at kT zt vt hst
          replace kT := Lib.hid kT
          have hs2 := Nat.le_trans zt hs'.out
          replace hxl := hxl.out
          have hkm : k < 1048576 := by omega
          clear hz hXk hs' zt
          replace hxl := Lib.hid hxl
          have kB := Lib.hid (fun wz l' (O : Own W wz (slA 11 (l' : Value × Nat × List Value).1 l'.2.1 l'.2.2 :: Octs.rdA N s2 b2 :: l)) => bad_O O 1 rfl hs2 vt)
          replace hst := Lib.hid hst
          replace vt := Lib.hid vt
          replace hs2 := Lib.hid hs2
          go_upto_region 7 with (first
            | (go_at_call 77; (with_reducible refine kl.out.mono ?_); clear kl; rintro e w2 ⟨rfl, e2, rfl⟩)
            | (go_at_call 44; (with_reducible refine (kT.out _ (by (repeat (first | exact Plus.refl _ | apply Plus.plus | apply Plus.alloc | apply Plus.drew)))).mono ?_); clear kT; rintro e w3 ⟨rfl, O3⟩; have O4 := Lib.hid ((O3.newCells [nI x.id.s, nI x.id.i, nI x.id.g, nI x.mask, nI x.x, nI x.y, nI x.vx, nI x.vy, nI x.hp, nI x.pw, nI x.lf] 75).pull 2 rfl); have hS := Lib.hid (Src.ofCells (P := Tryz.prog) (size := 11) (k := 1) underB _ [nI x.id.s, nI x.id.i, nI x.id.g, nI x.mask, nI x.x, nI x.y, nI x.vx, nI x.vy, nI x.hp, nI x.pw, nI x.lf] rfl ((O3.newCells [nI x.id.s, nI x.id.i, nI x.id.g, nI x.mask, nI x.x, nI x.y, nI x.vx, nI x.vy, nI x.hp, nI x.pw, nI x.lf] 75).cells 0 rfl).2.1 (by simp [Value.oneCell']) 1))
            | (at_builtin; refine wpList_append_O rfl _ _ 36 36 rfl 75 i0 _ 11 88 underB hi0.out hz0.out hz1.out hz2.out rfl rfl O4.out rfl hS.out (by unfold maxLen; omega) (by omega) ?_; intro A6 c6 w6 O6; have k6 := Lib.hid (kB.out _ (_, _, _) O6.rot1.drop); replace O6 := Lib.hid O6.rot1.drop))
          clear O3 O4 hS kB O
          cases b2 with
          | true =>
            have hst' := hst.out
            rw [if_pos rfl] at hst'
            subst hst'
            obtain rfl := vt.out rfl
            go_wp2_with (go_at_call 78; (with_reducible refine k6.out.mono ?_); clear k6; rintro e w4 ⟨rfl, e4, rfl⟩)
            go_ret
            exact ⟨none, 0, rfl, Own.nilSl ((O6.out.drop).plus e4) 11⟩
          | false =>
            have hst' := hst.out
            rw [if_neg (by simp)] at hst'
            replace hst' := Lib.hid hst'
            clear hst
            go_wp2_with (go_at_call 78; (with_reducible refine k6.out.mono ?_); clear k6; rintro e w4 ⟨rfl, e4, rfl⟩)
            go_roundw
            case rel => exact ⟨k + 1, A6, c6, xs ++ [x], s2, hlt, by go_num, rfl, (show (xs ++ [x]).length = k + 1 by rw [List.length_append, List.length_singleton, hxl.out]), hs2, (show Own W _ _ by rw [flat_snoc]; exact O6.out.plus e4), hst'⟩
            case measure => simp [intOf]; omega
      · obtain rfl : k = m := by omega
        have hkk : ¬ (k : Int) < k := by omega
        go_wp2_with fail
        go_ret
        have hst := hXk.out
        rw [Nat.sub_self, tkL] at hst
        subst hst
        have hxe := hxl.out
        clear hxl
        subst hxe
        exact ⟨A, cp, rfl, O.out⟩
theorem underC : Tryz.prog.underlying 35 = some (.slice 77) := by kernel_rfl
theorem infoC : (Tryz.prog.info? 77).map (fun i => (i.zero, i.size, i.bytes)) = some (some (.agg #[nI 0, nI 0, nI 0, nI 0, nI 0, nI 0, nI 0, nI 0, nI 0, nI 0, nI 0, nI 0, nI 0, nI 0, nI 0, nI 0]), 16, 128) := by kernel_rfl
theorem takeListC_O {W wx : World} {N : Nat} {s : ByteArray} {b : Bool} {l : List Asn} (h : Own W wx (Octs.rdA N s b :: l)) (hs : s.size ≤ 281474976710656) (hb : inv (s, b)) (most : Int) (hm : most ≤ 1048576) :
    Calls Tryz.prog 41 #[Octs.rdV N, nI most, .func (.func 42) #[] #[]] wx fun e w' => ∃ A c, e = .returned (.slice A (readL tkC s b most).1.length c) ∧ Own W w' (slA 16 (.slice A (readL tkC s b most).1.length c) (readL tkC s b most).1.length ((readL tkC s b most).1.flatMap CmdR.cs) :: Octs.rdA N (readL tkC s b most).2.1 (readL tkC s b most).2.2 :: l) := by
  have k1 := rdCount_O h hs most
  have z1 := Octs.rCount_size s b most
  have v1 := Octs.rCount_inv s b most hb
  have c1 := rCount_most s b most 1048576 (by omega) hm
  have d1 := rCount_bad s b most
  obtain ⟨X, hX⟩ : ∃ X, X = readL tkC s b most := ⟨_, rfl⟩
  rw [← hX]
  unfold readL at hX
  rcases h1 : Octs.rCount s b most with ⟨n, s1, b1⟩
  rw [h1] at k1 z1 v1 c1 d1 hX
  simp only at k1 z1 v1 c1 d1 hX
  obtain ⟨m, rfl⟩ : ∃ m : Nat, n = m := ⟨n.toNat, by omega⟩
  rw [Int.toNat_natCast] at hX
  replace k1 := Lib.hid k1
  replace c1 : m ≤ 1048576 := by omega
  obtain ⟨i0, hi0, hz0, hz1, hz2⟩ := info_parts infoC
  replace hi0 := Lib.hid hi0
  replace hz0 := Lib.hid hz0
  replace hz1 := Lib.hid hz1
  replace hz2 := Lib.hid hz2
  cases b1 with
  | true =>
    obtain rfl : m = 0 := by have := d1 rfl; omega
    obtain rfl := v1 rfl
    rw [if_pos rfl] at hX
    subst hX
    clear h1 z1 v1 d1 hs hb h hm
    go_enter Tryz.func41, Tryz.ntmps41
    go_upto_region 3 with (go_at_call 76; (with_reducible refine k1.out.mono ?_); clear k1; rintro e w1 ⟨rfl, O1⟩; replace O1 := Lib.hid O1)
    go_loopw [7, 11] (fun lv i wr => lv = .slice none 0 0 ∧ i = nI 0 ∧ wr = w1) (fun _ i _ => 0)
    case atStart => exact ⟨rfl, rfl, rfl⟩
    case round =>
      obtain ⟨rfl, rfl, rfl⟩ := hrel
      go_wp2_with fail
      go_ret
      exact ⟨none, 0, rfl, Own.nilSl O1.out 16⟩
  | false =>
    rw [if_neg (by simp)] at hX
    have hs1 : s1.size ≤ 281474976710656 := by omega
    have kL := fun wz l' s' (hz : s'.size ≤ 281474976710656) (O : Own W wz (slA 16 (l' : Value × Nat × List Value).1 l'.2.1 l'.2.2 :: Octs.rdA N s' false :: l)) => Octs.rdLeft wz N s' false (Octs.Own.rd 1 O rfl) hz
    have hmi : (m : Int) ≤ 1048576 := by omega
    replace hs1 := Lib.hid hs1
    clear h1 z1 v1 d1 hs hb h hm
    go_enter Tryz.func41, Tryz.ntmps41
    go_upto_region 3 with (go_at_call 76; (with_reducible refine k1.out.mono ?_); clear k1; rintro e w1 ⟨rfl, O1⟩; replace O1 := Lib.hid (Own.nilSl O1 16))
    go_loopw [7, 11] (fun lv i wr => ∃ (k : Nat) (A : Option Addr) (cp : Nat) (xs : List CmdR) (s' : ByteArray), k ≤ m ∧ i = nI k ∧ lv = .slice A k cp ∧ Hid (xs.length = k) ∧ Hid (s'.size ≤ 281474976710656) ∧ Hid (Own W wr (slA 16 (.slice A k cp) k (xs.flatMap CmdR.cs) :: Octs.rdA N s' false :: l)) ∧ Hid (X = tkL tkC (m - k) xs s')) (fun _ i _ => m - (intOf i).toNat)
    case atStart => exact ⟨0, none, 0, [], s1, by omega, rfl, rfl, rfl, hs1, O1, hX⟩
    case round =>
      obtain ⟨k, A, cp, xs, s', hk, rfl, rfl, hxl, hs', O, hXk⟩ := hrel
      clear hX O1 hs1
      by_cases hlt : k < m
      · have hlti : (k : Int) < m := by omega
        have hst := hXk.out
        rw [show m - k = (m - (k + 1)) + 1 by omega, tkL] at hst
        have kl := Lib.hid (kL _ (_, _, _) s' hs'.out O.out)
        clear kL
        by_cases hz : s'.size = 0
        · have hs0 : s' = ⟨#[]⟩ := Octs.empty_of_size hz
          subst hs0
          have hzi : ¬ (0 : Int) < ((⟨#[]⟩ : ByteArray).size : Nat) := by decide
          rw [tkC_none, if_pos rfl] at hst
          subst hst
          have kS := Lib.hid (fun wz (p : wr.Plus wz) => spoil_O ((Own.atP O.out wz p).rot1) (by decide))
          clear hz hXk hxl hs'
          go_wp2_with (first
            | (go_at_call 77; (with_reducible refine kl.out.mono ?_); clear kl; rintro e w2 ⟨rfl, e2, rfl⟩)
            | (go_at_call 76; (with_reducible refine (kS.out _ (by (repeat (first | exact Plus.refl _ | apply Plus.plus | apply Plus.alloc | apply Plus.drew)))).mono ?_); clear kS; rintro e w3 ⟨rfl, O3⟩; have kB := Lib.hid (bad_O O3 0 rfl (by decide) (fun _ => rfl)); replace O3 := Lib.hid O3)
            | (go_at_call 78; (with_reducible refine kB.out.mono ?_); clear kB; rintro e w4 ⟨rfl, e4, rfl⟩))
          go_ret
          exact ⟨none, 0, rfl, Own.nilSl ((O3.out.rot1.drop).plus e4) 16⟩
        · have hzi : (0 : Int) < (s'.size : Nat) := by omega
          have kT := fun wz (p : wr.Plus wz) => takeCmd_O ((Own.atP O.out wz p).rot1) hs'.out (by intro h; cases h)
          have zt := tkC_size s' false
          have vt := tkC_inv s' false
          rcases ht : tkC s' false with ⟨x, s2, b2⟩
          rw [ht] at kT zt vt hst
          simp only at kT zt vt hst
          replace kT := Lib.hid kT
          have hs2 := Nat.le_trans zt hs'.out
          replace hxl := hxl.out
          have hkm : k < 1048576 := by omega
          clear hz hXk hs' zt
          replace hxl := Lib.hid hxl
          have kB := Lib.hid (fun wz l' (O : Own W wz (slA 16 (l' : Value × Nat × List Value).1 l'.2.1 l'.2.2 :: Octs.rdA N s2 b2 :: l)) => bad_O O 1 rfl hs2 vt)
          replace hst := Lib.hid hst
          replace vt := Lib.hid vt
          replace hs2 := Lib.hid hs2
          go_upto_region 7 with (first
            | (go_at_call 77; (with_reducible refine kl.out.mono ?_); clear kl; rintro e w2 ⟨rfl, e2, rfl⟩)
            | (go_at_call 42; (with_reducible refine (kT.out _ (by (repeat (first | exact Plus.refl _ | apply Plus.plus | apply Plus.alloc | apply Plus.drew)))).mono ?_); clear kT; rintro e w3 ⟨rfl, O3⟩; have O4 := Lib.hid ((O3.newCells [nI x.kind, nI x.id.s, nI x.id.i, nI x.id.g, nI x.b.id.s, nI x.b.id.i, nI x.b.id.g, nI x.b.mask, nI x.b.x, nI x.b.y, nI x.b.vx, nI x.b.vy, nI x.b.hp, nI x.b.pw, nI x.b.lf, nI x.mask] 77).pull 2 rfl); have hS := Lib.hid (Src.ofCells (P := Tryz.prog) (size := 16) (k := 1) underC _ [nI x.kind, nI x.id.s, nI x.id.i, nI x.id.g, nI x.b.id.s, nI x.b.id.i, nI x.b.id.g, nI x.b.mask, nI x.b.x, nI x.b.y, nI x.b.vx, nI x.b.vy, nI x.b.hp, nI x.b.pw, nI x.b.lf, nI x.mask] rfl ((O3.newCells [nI x.kind, nI x.id.s, nI x.id.i, nI x.id.g, nI x.b.id.s, nI x.b.id.i, nI x.b.id.g, nI x.b.mask, nI x.b.x, nI x.b.y, nI x.b.vx, nI x.b.vy, nI x.b.hp, nI x.b.pw, nI x.b.lf, nI x.mask] 77).cells 0 rfl).2.1 (by simp [Value.oneCell']) 1))
            | (at_builtin; refine wpList_append_O rfl _ _ 35 35 rfl 77 i0 _ 16 128 underC hi0.out hz0.out hz1.out hz2.out rfl rfl O4.out rfl hS.out (by unfold maxLen; omega) (by omega) ?_; intro A6 c6 w6 O6; have k6 := Lib.hid (kB.out _ (_, _, _) O6.rot1.drop); replace O6 := Lib.hid O6.rot1.drop))
          clear O3 O4 hS kB O
          cases b2 with
          | true =>
            have hst' := hst.out
            rw [if_pos rfl] at hst'
            subst hst'
            obtain rfl := vt.out rfl
            go_wp2_with (go_at_call 78; (with_reducible refine k6.out.mono ?_); clear k6; rintro e w4 ⟨rfl, e4, rfl⟩)
            go_ret
            exact ⟨none, 0, rfl, Own.nilSl ((O6.out.drop).plus e4) 16⟩
          | false =>
            have hst' := hst.out
            rw [if_neg (by simp)] at hst'
            replace hst' := Lib.hid hst'
            clear hst
            go_wp2_with (go_at_call 78; (with_reducible refine k6.out.mono ?_); clear k6; rintro e w4 ⟨rfl, e4, rfl⟩)
            go_roundw
            case rel => exact ⟨k + 1, A6, c6, xs ++ [x], s2, hlt, by go_num, rfl, (show (xs ++ [x]).length = k + 1 by rw [List.length_append, List.length_singleton, hxl.out]), hs2, (show Own W _ _ by rw [flat_snoc]; exact O6.out.plus e4), hst'⟩
            case measure => simp [intOf]; omega
      · obtain rfl : k = m := by omega
        have hkk : ¬ (k : Int) < k := by omega
        go_wp2_with fail
        go_ret
        have hst := hXk.out
        rw [Nat.sub_self, tkL] at hst
        subst hst
        have hxe := hxl.out
        clear hxl
        subst hxe
        exact ⟨A, cp, rfl, O.out⟩
end Go.Proofs.YtpdlgflbcgemnaaGreatDoor
-- CodMr
/- codec: the reference's TakeBundles, TakeCmds, TakeIDs: walks. -/
set_option linter.unusedSimpArgs false
set_option linter.unusedVariables false
namespace Go.Proofs.YtpdlgflbcgemnaaGreatDoor
open Go.RowKit
set_option maxHeartbeats 1000000
set_option maxRecDepth 100000
end Go.Proofs.YtpdlgflbcgemnaaGreatDoor
