/- arch: the law's Alike: walk. -/
import Derived.Test.YtkdagljoiacaaaaArN
set_option linter.unusedSimpArgs false
set_option linter.unusedVariables false
namespace Go.Proofs.Ytkdagljoiacaaaa
open Go.RowKit
theorem tabs_ids {T : Tabs} {L : List (Ad × TbR)} (hL : L.map (·.2) = tabsN T 32) (ht : total T ≤ 90000) : L.length ≤ 32 ∧ ∀ x ∈ L, x.2.2.length ≤ 90000 := by
  refine ⟨?_, fun x hx => ?_⟩
  · have := congrArg List.length hL
    rw [List.length_map] at this
    have := tabsN_length T 32
    omega
  · have : x.2 ∈ tabsN T 32 := by rw [← hL]; exact List.mem_map.2 ⟨x, hx, rfl⟩
    unfold tabsN at this
    obtain ⟨m, hm, h2⟩ := List.mem_flatMap.1 this
    split at h2
    · cases h2
    · simp only [List.mem_singleton] at h2
      rw [h2, List.length_map]
      exact Nat.le_trans (len_total T m (List.mem_range.1 hm)) ht
theorem sameTables_true2 (w : World) (A B : Option Addr) (c d : Nat) (L K : List (Ad × TbR)) (hL : RdT w A c L) (hK : RdT w B d K) (hLK : L.map (·.2) = K.map (·.2)) (hb : L.length ≤ 32 ∧ ∀ x ∈ L, x.2.2.length ≤ 90000) :
    Calls Try.prog 42 #[.slice A L.length c, .slice B K.length d] w fun e w' => e = .returned (.bool true) ∧ w.Plus w' := by
  have := sameTables_true w A B c d L.length L K hL hK hLK rfl (by omega) hb.2
  have hl := congrArg List.length hLK
  rw [List.length_map, List.length_map] at hl
  rw [← hl]
  exact this
set_option maxRecDepth 100000 in
set_option maxHeartbeats 1000000 in
theorem alike_O {W wx : World} {S R : Nat} {T : Tabs} {l : List Asn} (h : Own W wx (storeA S T :: refA R T :: l)) (hg : GoodT T) (ht : total T ≤ 10000) :
    Calls Try.prog 22 #[chP S, chP R] wx (OwnTo W (.bool true) (storeA S T :: refA R T :: l)) := by
  have hal := allT_length T
  have k43 := Lib.hid (fun wz (O : Own W wz (refA R T :: storeA S T :: l)) => refAll_O O (by omega))
  have O0 := Lib.hid (h.rot1)
  have k24 : RowKit.Hid (∀ (l2 : List Asn) (wz : World), Own W wz (storeA S T :: l2) → Calls Try.prog 41 #[chP S, nI 10000] wz fun e w' => ∃ A c q, Same2 q ((allT T).take 10000) ∧ e = .returned (.slice A q.length c) ∧ Own W w' (slA 11 (.slice A q.length c) q.length (bdsCs q) :: storeA S T :: l2)) := Lib.hid (fun l2 wz O => lall_O O hg (by omega) 10000 (by omega))
  have htk := Lib.hid (List.take_of_length_le (l := allT T) (i := 10000) (by omega))
  replace hg := Lib.hid hg
  clear h
  have hlen : (allT T).length ≤ 10000 := by omega
  have hne : (((total T : Nat) : Int) != ((allT T).length : Int)) = false := by rw [hal]; simp
  obtain ⟨xs, hxs⟩ : ∃ xs, xs = allT T := ⟨_, rfl⟩
  rw [← hxs] at k43 k24 htk hlen hne hal
  obtain ⟨n, hn⟩ : ∃ n, n = xs.length := ⟨_, rfl⟩
  rw [← hn] at k43 hlen hne hal
  replace hal := Lib.hid hal
  obtain ⟨tt, htt⟩ : ∃ tt, tt = total T := ⟨_, rfl⟩
  rw [← htt] at hne
  replace htt := Lib.hid htt
  replace hxs := Lib.hid hxs
  replace hn := Lib.hid hn
  go_enter Try.func22, Try.ntmps22
  go_upto_region 2 with (go_at_call 40; (with_reducible refine (k43.out _ O0.out).mono ?_); rintro e w1 ⟨A1, c1, rfl, O1⟩; replace O1 := Lib.hid O1)
  go_upto_region 4 with (first
    | (go_at_call 18; (with_reducible refine ((by have := len_store (O1.out.pull 2 rfl); rw [← htt.out] at this; exact this : Calls Try.prog 18 #[chP S] w1 fun e w' => e = .returned (nI tt) ∧ w1.Plus w')).mono ?_); rintro e w' ⟨rfl, ey, rfl⟩; have O2 := Lib.hid ((O1.out.plus ey).pull 2 rfl))
    | (go_at_call 16; (with_reducible refine (same_true w3 A3 A1 c3 c1 n _ hn.out (O3.out.sl 0 rfl) (O3.out.sl 2 rfl) (by omega)).mono ?_); rintro e w' ⟨rfl, ez, rfl⟩; have O4 := Lib.hid ((O3.out.plus ez).pull 1 rfl))
    | (go_at_call 43; (with_reducible refine (tables_O O4.out (by omega)).mono ?_); rintro e w5 ⟨A5, c5, L, rfl, O5, hL⟩; replace O5 := Lib.hid (O5.pull 5 rfl); replace hL := Lib.hid hL)
    | (go_at_call 44; (with_reducible refine (refTables_O O5.out (by omega)).mono ?_); rintro e w6 ⟨A6, c6, K, rfl, O6, hK⟩; have hLK := Lib.hid (Eq.trans hL.out (Eq.symm hK)); replace hK := Lib.hid hK; have rL := (tbl_rd ((O6.pull 4 rfl).pull 4 rfl) : RdT w6 A5 c5 L); have rK := (tbl_rd O6 : RdT w6 A6 c6 K); have k27 := Lib.hid (sameTables_true2 w6 A5 A6 c5 c6 L K rL rK hLK.out (tabs_ids hL.out (by omega))); clear rL rK; replace O6 := Lib.hid O6)
    | (go_at_call 42; (with_reducible refine k27.out.mono ?_); rintro e w' ⟨rfl, ew, rfl⟩; have O7 := Lib.hid (O6.out.plus ew))
    | (go_at_call 41; (with_reducible refine (k24.out _ _ O2.out).mono ?_); rintro e w3 ⟨A3, c3, q, hq, rfl, O3⟩; obtain rfl : q = xs := Eq.trans hq htk.out; rw [← hn.out] at O3 ⊢; replace O3 := Lib.hid O3))
  have O8 : Own W (w6.plus ew) (storeA S T :: refA R T :: slA 11 (.slice A1 n c1) n (bdsCs q) :: l) := ((((O7.out.drop.drop.pull 1 rfl).drop.pull 1 rfl).drop.pull 2 rfl).drop).rot1
  generalize w6.plus ew = w7 at *
  clear O0 O1 O2 O3 O4 O5 O6 O7 k27 k43 k24 hL hK hLK hne
  replace O8 := Lib.hid O8
  go_wp2_with fail
  go_loopw [6] (fun v wr => ∃ i : Nat, i ≤ n ∧ v = nI i ∧ Own W wr (storeA S T :: refA R T :: slA 11 (.slice A1 n c1) n (bdsCs q) :: l)) (fun v _ => n - (intOf v).toNat)
  case atStart => exact ⟨0, by omega, rfl, O8.out⟩
  case round =>
    clear O8
    obtain ⟨i, hi, rfl, O2⟩ := hrel
    by_cases hlt : i < n
    · have hlti : (i : Int) < n := by omega
      obtain ⟨b, hb⟩ : ∃ b, q[i]? = some b := ⟨_, List.getElem?_eq_getElem (by rw [← hn.out]; exact hlt)⟩
      obtain ⟨m, k, hm, hbk, hfk⟩ := all_find hg.out b (by rw [← hxs.out]; exact List.mem_of_getElem? hb)
      have hgs : getS T b.id = b := by
        unfold getS
        rw [hfk]
        simp only
        rw [List.getD_eq_getElem?_getD, hbk]
        rfl
      have hid := okB_id ((hg.out.ok m hm b (List.mem_of_getElem? hbk)).1)
      obtain ⟨g, o, rfl, hgw, hX⟩ := sl_bd (O2.sl 2 rfl) i b hb hlt
      obtain ⟨a0, a1, a2, a3, a4, a5, a6, a7, a8, a9, a10⟩ := hX
      have kG := fun wz (p : wr.Plus wz) => get_store (Own.atP O2 wz p) hg.out b.id hid (by omega)
      have kR := fun wz (p : wr.Plus wz) => row_store (Own.atP O2 wz p) b.id hid
      have kQ := fun wz (p : wr.Plus wz) => refGetS ((Own.atP O2 wz p).rot1) hg.out b.id (by omega)
      rw [hgs, hfk] at kG kQ
      rw [hfk] at kR
      simp only [Option.isSome_some, Option.elim] at kG kR kQ
      replace kG := Lib.hid kG
      replace kR := Lib.hid kR
      replace kQ := Lib.hid kQ
      replace O2 := Lib.hid O2
      have hq := neqBd b b
      rw [decide_eq_true rfl] at hq
      clear hb hbk hfk hgs hid hm
      go_upto_region 10 with (first
        | (go_at_call 23; (with_reducible refine (kG.out _ (by (repeat (first | exact Plus.refl _ | apply Plus.plus | apply Plus.alloc | apply Plus.drew)))).mono ?_); rintro e w' ⟨rfl, e1, rfl⟩)
        | (go_at_call 45; (with_reducible refine (kR.out _ (by (repeat (first | exact Plus.refl _ | apply Plus.plus | apply Plus.alloc | apply Plus.drew)))).mono ?_); rintro e w' ⟨rfl, e2, rfl⟩)
        | (go_at_call 37; (with_reducible refine (kQ.out _ (by (repeat (first | exact Plus.refl _ | apply Plus.plus | apply Plus.alloc | apply Plus.drew)))).mono ?_); rintro e w' ⟨rfl, e3, rfl⟩))
      refine wp_region_grow (by kernel_rfl) (by kernel_rfl) ?_
      repeat (go_big_quiet_step (fail))
      refine wpQuiet_nil ?_
      intro ex
      go_wp2_with fail
      go_roundw
      case rel => exact ⟨i + 1, hlt, by go_num, Own.atP O2.out _ (by (repeat (first | exact Plus.refl _ | apply Plus.plus | apply Plus.alloc | apply Plus.drew)))⟩
      case measure => simp [intOf]; omega
    · obtain rfl : i = n := by omega
      have O9 := Lib.hid ((O2.pull 2 rfl).drop)
      clear O2
      go_wp2_with fail
      go_ret
      exact ⟨rfl, O9.out⟩
end Go.Proofs.Ytkdagljoiacaaaa
