/- ArchYields: walk. -/
import Derived.Test.YtanbppejfhnjbaaArW
set_option linter.unusedSimpArgs false
set_option linter.unusedVariables false
namespace Go.Proofs.Ytanbppejfhnjbaa
open Go.RowKit
def wantL (T : Tabs) (L : List (Ad × TbR)) : List BdR := L.flatMap fun x => x.2.2.map (getS T)
theorem wantL_snoc {T : Tabs} {L : List (Ad × TbR)} {i : Nat} {x : Ad × TbR} (h : L[i]? = some x) : wantL T (L.take (i + 1)) = wantL T (L.take i) ++ x.2.2.map (getS T) := by
  rw [take_snoc h]
  unfold wantL
  rw [List.flatMap_append]
  simp
theorem getS_self {T : Tabs} (hg : GoodT T) {m i : Nat} {b : BdR} (hm : m < 32) (hb : (T m)[i]? = some b) : getS T b.id = b := by
  unfold getS
  rw [findT_of hg hm hb]
  simp only
  rw [List.getD_eq_getElem?_getD, hb]
  rfl
theorem map_getS {T : Tabs} (hg : GoodT T) {m : Nat} (hm : m < 32) : ((T m).map (·.id)).map (getS T) = T m := by
  rw [List.map_map]
  apply List.ext_getElem?
  intro i
  rw [List.getElem?_map]
  cases h : (T m)[i]? with
  | none => rfl
  | some b => simp only [Option.map_some, Function.comp]; rw [getS_self hg hm h]
theorem wantL_all {T : Tabs} (hg : GoodT T) {L : List (Ad × TbR)} (hL : L.map (·.2) = tabsN T 32) : wantL T L = allT T := by
  have e : wantL T L = (L.map (·.2)).flatMap fun y => y.2.map (getS T) := by unfold wantL; rw [List.flatMap_map]
  rw [e, hL]
  unfold tabsN allT allN
  have key : ∀ R : List Nat, (∀ k ∈ R, k < 32) → (R.flatMap fun (k : Nat) => if (T k).length = 0 then ([] : List TbR) else [((k : Int), (T k).map (·.id))]).flatMap (fun y => y.2.map (getS T)) = R.flatMap T := by
    intro R
    induction R with
    | nil => intro _; rfl
    | cons k r ih =>
      intro hR
      rw [List.flatMap_cons, List.flatMap_append, ih (fun j hj => hR j (List.mem_cons_of_mem _ hj)), List.flatMap_cons]
      congr 1
      by_cases h0 : (T k).length = 0
      · rw [if_pos h0, List.eq_nil_of_length_eq_zero h0]; rfl
      · rw [if_neg h0, List.flatMap_singleton]
        exact map_getS hg (hR k List.mem_cons_self)
  exact key _ (fun k hk => List.mem_range.1 hk)
theorem wantL_length {T : Tabs} (L : List (Ad × TbR)) : (wantL T L).length = cntL L := by
  unfold wantL cntL
  rw [List.length_flatMap]
  congr 1
  apply List.map_congr_left
  intro x _
  rw [List.length_map]
theorem cntL_le {L : List (Ad × TbR)} (k : Nat) : cntL (L.take k) ≤ cntL L := by
  have h1 : cntL L = cntL (L.take k) + cntL (L.drop k) := by
    unfold cntL
    rw [← List.sum_append, ← List.map_append, List.take_append_drop]
  omega
set_option maxRecDepth 100000 in
set_option maxHeartbeats 400000 in
theorem archYields_any (W : World) (ds : List DeedR) (A : Option Addr) (cp : Nat) (most : Int) (hc : ds.length ≤ cp) (hn : cp ≤ 9223372036854775807) (hr : RowsAt W A 12 ds.length (dRow ds)) (hid : ∀ d ∈ ds, IdW d.b.id) :
    Calls Try.prog 7 #[.slice A ds.length cp, nI most] W fun e w' => e = .returned (.bool true) ∧ W.Plus w' := by
  obtain ⟨i0, hi0, hz0, hz1, hz2⟩ := info_parts infoBd
  replace hi0 := Lib.hid hi0
  replace hz0 := Lib.hid hz0
  replace hz1 := Lib.hid hz1
  replace hz2 := Lib.hid hz2
  have k1 := Lib.hid (made_O (Own.start W) ds A cp hc hn hr hid)
  obtain ⟨G, C, hT⟩ := run_good (ds.take 60)
  rw [List.length_take] at hT
  generalize runT (ds.take 60) = T at *
  have hT6 : total T ≤ 60 := by omega
  clear hr hid hc hn hT C
  replace G := Lib.hid G
  obtain ⟨K, hK1, hK2⟩ : ∃ K : Nat, K < 70 ∧ (most.tmod 70 + 70).tmod 70 = (K : Int) := by
    have h1 := Int.tmod_lt_of_pos most (b := 70) (by omega)
    have h2 := Int.lt_tmod_of_pos most (b := 70) (by omega)
    have h3 := Int.tmod_nonneg (a := most.tmod 70 + 70) 70 (by omega)
    have h4 := Int.tmod_lt_of_pos (most.tmod 70 + 70) (b := 70) (by omega)
    exact ⟨((most.tmod 70 + 70).tmod 70).toNat, by omega, by omega⟩
  have hw1 : wrap64 (most.tmod 70 + 70) = most.tmod 70 + 70 := by
    have h1 := Int.tmod_lt_of_pos most (b := 70) (by omega)
    have h2 := Int.lt_tmod_of_pos most (b := 70) (by omega)
    exact w64_id (by omega) (by omega)
  go_enter Try.func7, Try.ntmps7
  go_upto_region 5 with (first
    | (go_at_call 11; (with_reducible refine k1.out.mono ?_); rintro e w1 ⟨S, rfl, O1⟩; replace O1 := Lib.hid O1)
    | (go_at_call 12; (with_reducible refine (tables_O O1.out (by omega)).mono ?_); rintro e w2 ⟨A2, c2, L, rfl, O2, hL⟩; replace hL := Lib.hid hL; replace O2 := Lib.hid O2))
  have hLb := tabs_ids hL.out (by omega)
  have hcnt := Lib.hid (cntL_all hL.out)
  have hwant := Lib.hid (wantL_all G.out hL.out)
  obtain ⟨hL32, hLi⟩ := hLb
  have O3 : Own W w2 (slA 11 (.slice none 0 0) 0 (bdsCs []) :: storeA S T :: tblL (.slice A2 L.length c2) L) := Own.nilSl (O2.out.pull 2 rfl) 11
  obtain ⟨n, hn⟩ : ∃ n, n = L.length := ⟨_, rfl⟩
  rw [← hn] at hL32
  rw [show (Value.slice A2 L.length c2) = .slice A2 n c2 by rw [hn]]
  replace hn := Lib.hid hn
  replace O3 := Lib.hid O3
  clear O2 O1 k1 hw1 hLi
  replace hK2 := Lib.hid hK2
  go_wp2_with fail
  go_loopw [6, 8] (fun s v wr => ∃ (i : Nat) (A3 : Option Addr) (c3 : Nat), i ≤ n ∧ v = nI i ∧ s = .slice A3 (wantL T (L.take i)).length c3 ∧ Own W wr (slA 11 (.slice A3 (wantL T (L.take i)).length c3) (wantL T (L.take i)).length (bdsCs (wantL T (L.take i))) :: storeA S T :: tblL (.slice A2 L.length c2) L)) (fun _ v _ => n - (intOf v).toNat)
  case atStart => exact ⟨0, none, 0, by omega, rfl, rfl, O3.out⟩
  case round =>
    clear O3
    obtain ⟨i, A3, c3, hi, rfl, rfl, O2⟩ := hrel
    by_cases hlt : i < n
    · have hlti : (i : Int) < n := by omega
      obtain ⟨x, hx⟩ : ∃ x, L[i]? = some x := ⟨_, List.getElem?_eq_getElem (by rw [← hn.out]; exact hlt)⟩
      obtain ⟨m, hm32, hm0, hxm⟩ := tabs_at hL.out hx
      have hsn := wantL_snoc (T := T) hx
      have hl1 : (wantL T (L.take i)).length + x.2.2.length ≤ 60 := by
        have h1 := cntL_le (L := L) (i + 1)
        rw [cntL_take hx, hcnt.out] at h1
        rw [wantL_length]
        omega
      have hrd : ∀ w', (∃ l2, Own W w' (l2 ++ tblL (.slice A2 L.length c2) L)) → RdT w' A2 c2 L := fun w' ⟨l2, p⟩ => tbl_rd (p.perm List.perm_append_comm)
      generalize wantL T (L.take i) = w0 at *
      obtain ⟨⟨xa, xc⟩, xm, ids⟩ := x
      cases hxm
      dsimp only at hsn hl1
      have hI := Lib.hid (fun w' (p : ∃ l2, Own W w' (l2 ++ tblL (.slice A2 L.length c2) L)) => (hrd w' p).ids i _ hx)
      have hTa := Lib.hid (fun w' (p : ∃ l2, Own W w' (l2 ++ tblL (.slice A2 L.length c2) L)) => tb_cells (hrd w' p) i _ hx)
      dsimp only at hI hTa
      rw [List.length_map] at hI hTa hl1
      obtain ⟨q, hq⟩ : ∃ q, q = (T m).length := ⟨_, rfl⟩
      rw [← hq] at hI hTa hm0 hl1
      replace hq := Lib.hid hq
      replace hsn := Lib.hid hsn
      clear hx hrd
      replace O2 := Lib.hid O2
      go_wp2_with fail
      go_loopw [6, 9] (fun s v wz => ∃ (k : Nat) (A4 : Option Addr) (c4 : Nat), k ≤ q ∧ v = nI k ∧ s = .slice A4 (w0.length + k) c4 ∧ Own W wz (slA 11 (.slice A4 (w0.length + k) c4) (w0.length + k) (bdsCs (w0 ++ (T m).take k)) :: storeA S T :: tblL (.slice A2 L.length c2) L)) (fun _ v _ => q - (intOf v).toNat)
      case atStart => exact ⟨0, A3, c3, by omega, rfl, rfl, by rw [List.take_zero, List.append_nil]; exact O2.out⟩
      case round =>
        clear O2
        obtain ⟨k, A4, c4, hk, rfl, rfl, O5⟩ := hrel
        rename World => wz
        obtain ⟨g, o, hA, hg, a0, a1⟩ := hTa.out _ ⟨[_, _], O5⟩
        subst hA
        by_cases hkt : k < q
        · have hkti : (k : Int) < q := by omega
          have hkd : decide (k < q) = true := decide_eq_true hkt
          obtain ⟨b, hb⟩ : ∃ b, (T m)[k]? = some b := ⟨_, List.getElem?_eq_getElem (by rw [← hq.out]; exact hkt)⟩
          have hbi : ((T m).map (·.id))[k]? = some b.id := by rw [List.getElem?_map, hb]; rfl
          obtain ⟨g3, o3, hA3, hg3, d0, d1, d2⟩ := id_cells (hI.out _ ⟨[_, _], O5⟩) k b.id hbi hkt
          subst hA3
          obtain ⟨hok, hbm⟩ := G.out.ok m hm32 b (List.mem_of_getElem? hb)
          have kG := get_store (O5.pull 1 rfl) G.out b.id (okB_id hok) (by omega)
          rw [getS_self G.out hm32 hb, findT_of G.out hm32 hb] at kG
          simp only [Option.isSome_some] at kG
          replace kG := Lib.hid kG
          have hcs : bdsCs (w0 ++ (T m).take (k + 1)) = bdsCs (w0 ++ (T m).take k) ++ b.cs := by
            rw [take_snoc hb, ← List.append_assoc, bdsCs_append]
            rfl
          replace hcs := Lib.hid hcs
          clear hb hbi hok hbm
          replace O5 := Lib.hid O5
          go_upto_region 12 with (go_at_call 13; (with_reducible refine kG.out.mono ?_); rintro e w' ⟨rfl, e1, rfl⟩)
          have OA := Lib.hid (((O5.out.plus e1).alloc (.cells #[nI b.id.s, nI b.id.i, nI b.id.g, nI b.mask, nI b.x, nI b.y, nI b.vx, nI b.vy, nI b.hp, nI b.pw, nI b.lf] 33)).alloc (.cells #[nI b.id.s, nI b.id.i, nI b.id.g, nI b.mask, nI b.x, nI b.y, nI b.vx, nI b.vy, nI b.hp, nI b.pw, nI b.lf] 33))
          have hS0 : Src Try.prog 11 42 (.slice (some ⟨((wz.plus e1).alloc (.cells #[nI b.id.s, nI b.id.i, nI b.id.g, nI b.mask, nI b.x, nI b.y, nI b.vx, nI b.vy, nI b.hp, nI b.pw, nI b.lf] 33)).heap.size, 0, none⟩) 1 1) 1 b.cs (((wz.plus e1).alloc (.cells #[nI b.id.s, nI b.id.i, nI b.id.g, nI b.mask, nI b.x, nI b.y, nI b.vx, nI b.vy, nI b.hp, nI b.pw, nI b.lf] 33)).alloc (.cells #[nI b.id.s, nI b.id.i, nI b.id.g, nI b.mask, nI b.x, nI b.y, nI b.vx, nI b.vy, nI b.hp, nI b.pw, nI b.lf] 33)) := src_bdNew _ b 33
          rw [World.size_alloc, World.size_plus_eq] at hS0
          have hS := Lib.hid hS0
          clear hS0
          go_upto_region 10 with (at_builtin; refine wpList_append_O rfl _ _ 42 42 rfl 33 i0 _ 11 88 underBds hi0.out hz0.out hz1.out hz2.out rfl rfl OA.out rfl hS.out (by unfold maxLen; omega) (by omega) ?_; intro A6 c6 w6 O6)
          rw [← hcs.out] at O6
          replace O6 := Lib.hid O6
          clear OA hS O5 a0 a1 d0 d1 d2 hg hg3
          go_wp2_with fail
          go_roundw
          case rel => exact ⟨k + 1, A6, c6, hkt, by go_num, rfl, O6.out⟩
          case measure => simp [intOf]; omega
        · obtain rfl : k = q := by omega
          have hkd : decide (k < k) = false := by simp
          have hsn2 := hsn.out
          rw [map_getS G.out hm32] at hsn2
          rw [show (T m).take k = T m by rw [hq.out, List.take_length], ← hsn2] at O5
          have hl2 : w0.length + k = (wantL T (L.take (i + 1))).length := by rw [hsn2, List.length_append, hq.out]
          rw [hl2] at O5 ⊢
          replace O5 := Lib.hid O5
          clear hl2 hsn2 hl1
          obtain ⟨w9, hw9⟩ : ∃ w9, w9 = wantL T (L.take (i + 1)) := ⟨_, rfl⟩
          rw [← hw9] at O5 ⊢
          replace hw9 := Lib.hid hw9
          go_wp2_with fail
          go_roundw
          case rel => exact ⟨i + 1, A4, c4, hlt, by go_num, by rw [← hw9.out], by rw [← hw9.out]; exact O5.out⟩
          case measure => simp [intOf]; omega
    · obtain rfl : i = n := by omega
      rw [show L.take i = L by rw [hn.out, List.take_length], hwant.out] at O2 ⊢
      have hal := allT_length T
      obtain ⟨xs, hxs⟩ : ∃ xs, xs = allT T := ⟨_, rfl⟩
      rw [← hxs] at O2 hal ⊢
      obtain ⟨n1, hn1⟩ : ∃ n1, n1 = xs.length := ⟨_, rfl⟩
      rw [← hn1] at O2 hal ⊢
      have hn6 : n1 ≤ 60 := by omega
      have k24 : RowKit.Hid (∀ (k : Nat), k ≤ 100000 → ∀ (l2 : List Asn) (wz : World), Own W wz (storeA S T :: l2) → Calls Try.prog 24 #[chP S, nI k] wz fun e w' => ∃ A c q, Same2 q (xs.take k) ∧ e = .returned (.slice A q.length c) ∧ Own W w' (slA 11 (.slice A q.length c) q.length (bdsCs q) :: storeA S T :: l2)) := Lib.hid (fun k hk l2 wz O => by rw [hxs]; exact lall_O O G.out (by omega) k hk)
      obtain ⟨m1, hm1⟩ : ∃ m1, m1 = min K n1 := ⟨_, rfl⟩
      have hmin : min (K : Int) (n1 : Int) = (m1 : Int) := by omega
      have hm1n : m1 ≤ n1 := by omega
      have hsl := O2.sl 0 rfl
      have hlenK := Lib.hid (show (xs.take K).length = m1 by rw [List.length_take, ← hn1]; exact hm1.symm)
      have hlenX := Lib.hid (show (xs.take 10000).length = n1 by rw [List.length_take, ← hn1]; omega)
      have htX := Lib.hid (show xs.take 10000 = xs from List.take_of_length_le (by omega))
      replace hm1 := Lib.hid hm1
      replace hn1 := Lib.hid hn1
      replace hxs := Lib.hid hxs
      replace hal := Lib.hid hal
      have OC := Lib.hid (O2.pull 1 rfl)
      clear O2
      have hcapA : m1 ≤ c3 := by
        rcases hsl.val with ⟨he, h0⟩ | ⟨g, off, cap, he, _, hcc, _⟩
        · cases he; omega
        · cases he; omega
      have hcapI : (m1 : Int) ≤ c3 := by omega
      have hcut : ∀ w', Sl w' 11 (.slice A3 n1 c3) n1 (bdsCs xs) → Sl w' 11 (.slice A3 m1 c3) m1 (bdsCs (xs.take K)) := by
        intro w' h1
        have htk : xs.take K = xs.take m1 := by
          rw [hm1.out]
          rcases Nat.le_total K n1 with h | h
          · rw [Nat.min_eq_left h]
          · rw [Nat.min_eq_right h, List.take_of_length_le (by rw [← hn1.out]; exact h), hn1.out, List.take_length]
        rw [htk]
        rcases Nat.eq_zero_or_pos n1 with h0 | h0
        · have hm0 : m1 = 0 := by omega
          rw [h0] at h1
          have hx0 : xs = [] := List.eq_nil_of_length_eq_zero (by rw [← hn1.out]; exact h0)
          rw [hm0, hx0]
          rw [hx0] at h1
          exact h1
        · have h2 := Sl.take h1 m1 hm1n h0
          rw [bdsCs_take] at h2
          exact h2
      have hA3 : (A3 = none ∧ c3 = 0 ∧ n1 = 0) ∨ ∃ g o, A3 = some ⟨g, o, none⟩ := by
        rcases hsl.val with ⟨he, h0⟩ | ⟨g, off, cap, he, _, hcc, _⟩
        · cases he; exact .inl ⟨rfl, rfl, h0⟩
        · cases he; exact .inr ⟨g, off, rfl⟩
      replace hcut := Lib.hid hcut
      clear hsl
      have kK : RowKit.Hid (∀ (l2 : List Asn) (wz : World), Own W wz (storeA S T :: l2) → Calls Try.prog 24 #[chP S, nI K] wz fun e w' => ∃ A c, e = .returned (.slice A m1 c) ∧ Own W w' (slA 11 (.slice A m1 c) m1 (bdsCs (xs.take K)) :: storeA S T :: l2)) := Lib.hid (fun l2 wz O => (k24.out K (by omega) l2 wz O).mono (by
        rintro e w' ⟨A, c, q, hq, rfl, O9⟩
        obtain rfl : q = xs.take K := hq
        rw [hlenK.out] at O9 ⊢
        exact ⟨A, c, rfl, O9⟩))
      have kX : RowKit.Hid (∀ (l2 : List Asn) (wz : World), Own W wz (storeA S T :: l2) → Calls Try.prog 24 #[chP S, nI 10000] wz fun e w' => ∃ A c, e = .returned (.slice A n1 c) ∧ Own W w' (slA 11 (.slice A n1 c) n1 (bdsCs xs) :: storeA S T :: l2)) := Lib.hid (fun l2 wz O => (k24.out 10000 (by omega) l2 wz O).mono (by
        rintro e w' ⟨A, c, q, hq, rfl, O9⟩
        obtain rfl : q = xs := Eq.trans hq htX.out
        rw [← hn1.out] at O9 ⊢
        exact ⟨A, c, rfl, O9⟩))
      clear k24
      go_upto_region 13 with fail
      rcases hA3 with ⟨rfl, rfl, hn0⟩ | ⟨g, o, rfl⟩
      · have hm0 : m1 = 0 := by omega
        subst hm0 hn0
        have hmin0 : min (K : Int) 0 = 0 := by omega
        set_option maxHeartbeats 200000 in
        go_region_held3 (fun w' => True) (trivial) (first
          | (go_at_call 24; (with_reducible refine (kK.out _ _ OC.out.drew).mono ?_); clear kK; rintro e w3 ⟨A5, c5, rfl, O5⟩; have k26 := Lib.hid (same_true w3 A5 _ c5 _ _ (xs.take K) hlenK.out.symm (O5.sl 0 rfl) (hcut.out w3 (O5.sl 2 rfl)) (by omega)); replace OC := Lib.hid (O5.pull 1 rfl); clear O5)
          | (go_at_call 26; (with_reducible refine k26.out.mono ?_); clear k26; rintro e w' ⟨rfl, e5, rfl⟩; replace OC := Lib.hid (OC.out.plus e5))
          | (go_at_call 24; (with_reducible refine (kX.out _ _ OC.out).mono ?_); clear kX; rintro e w6 ⟨A6, c6, rfl, O6⟩; have k26 := Lib.hid (same_true w6 A6 _ c6 _ _ _ hn1.out (O6.sl 0 rfl) (O6.sl 3 rfl) (by omega)); replace OC := Lib.hid (O6.pull 1 rfl); clear O6)
          | (go_at_call 17; (with_reducible refine (awake_any _).mono ?_); rintro e w' ⟨rfl, e9, rfl⟩))
        all_goals
          go_wp2_with fail
          go_ret
          exact ⟨rfl, Plus.plus OC.out.p e9⟩
      · set_option maxHeartbeats 200000 in
        go_region_held3 (fun w' => True) (trivial) (first
          | (go_at_call 24; (with_reducible refine (kK.out _ _ OC.out.drew).mono ?_); clear kK; rintro e w3 ⟨A5, c5, rfl, O5⟩; have k26 := Lib.hid (same_true w3 A5 _ c5 _ _ (xs.take K) hlenK.out.symm (O5.sl 0 rfl) (hcut.out w3 (O5.sl 2 rfl)) (by omega)); replace OC := Lib.hid (O5.pull 1 rfl); clear O5)
          | (go_at_call 26; (with_reducible refine k26.out.mono ?_); clear k26; rintro e w' ⟨rfl, e5, rfl⟩; replace OC := Lib.hid (OC.out.plus e5))
          | (go_at_call 24; (with_reducible refine (kX.out _ _ OC.out).mono ?_); clear kX; rintro e w6 ⟨A6, c6, rfl, O6⟩; have k26 := Lib.hid (same_true w6 A6 _ c6 _ _ _ hn1.out (O6.sl 0 rfl) (O6.sl 3 rfl) (by omega)); replace OC := Lib.hid (O6.pull 1 rfl); clear O6)
          | (go_at_call 17; (with_reducible refine (awake_any _).mono ?_); rintro e w' ⟨rfl, e9, rfl⟩))
        all_goals
          go_wp2_with fail
          go_ret
          exact ⟨rfl, Plus.plus OC.out.p e9⟩
end Go.Proofs.Ytanbppejfhnjbaa
