/- ArchSwaps: plain laws and walk. -/
import Derived.Test.YtanbppejfhnjbaaArW
set_option linter.unusedSimpArgs false
set_option linter.unusedVariables false
namespace Go.Proofs.Ytanbppejfhnjbaa
open Go.RowKit
theorem w64of {i : Int} (h1 : -9223372036854775808 ≤ i) (h2 : i ≤ 9223372036854775807) : wrap64 i = i := by
  unfold wrap64
  omega
theorem remNN (n : Int) (m : Nat) (hm : 0 < m) (hm2 : m ≤ 1000000) : ∃ (t : Int) (k : Nat), n.tmod m = t ∧ wrap64 (t + m) = t + m ∧ (t + m).tmod m = (k : Int) ∧ k < m ∧ -(m : Int) < t ∧ t < m := by
  have h1 := Int.emod_nonneg n (show (m : Int) ≠ 0 by omega)
  have h2 := Int.tmod_lt_of_pos n (show (0 : Int) < m by omega)
  have h3 := Int.lt_tmod_of_pos n (show (0 : Int) < m by omega)
  have h4 : 0 ≤ (n.tmod m + m) % m := Int.emod_nonneg _ (by omega)
  have h5 : (n.tmod m + m) % m < m := Int.emod_lt_of_pos _ (by omega)
  refine ⟨n.tmod m, ((n.tmod m + m) % m).toNat, rfl, w64of (by omega) (by omega), ?_, by omega, h3, h2⟩
  rw [Int.tmod_eq_emod_of_nonneg (by omega)]
  omega
theorem find_empty {T : Tabs} (h : total T = 0) (a : IdR) : findT T a = none := by
  rw [findT_none]
  intro m hm b hb
  have := len_total T m hm
  have := List.length_pos_of_mem hb
  omega
theorem in_all {T : Tabs} {m i : Nat} {b : BdR} (hm : m < 32) (hb : (T m)[i]? = some b) : b ∈ allT T := by
  unfold allT allN
  exact List.mem_flatMap.2 ⟨m, List.mem_range.2 hm, List.mem_of_getElem? hb⟩
/-- what is there behind a cut, but for what is cut -/
theorem cut_get {T : Tabs} (hg : GoodT T) {m i : Nat} {b z : BdR} (hm : m < 32) (hb : (T m)[i]? = some b) (hz : (T m)[(T m).length - 1]? = some z) (c : BdR) (hc : c ∈ allT T) (hne : ¬ c.id = b.id) :
    getS (cutT T m i) c.id = c := by
  obtain ⟨m', k', hm', hc', hf⟩ := all_find hg c hc
  have e := find_cut hg hm hb hz c.id
  rw [if_neg hne] at e
  have hib := (List.getElem?_eq_some_iff.1 hb).1
  have hil : ∀ {k}, (T m)[k]? = some c → k ≠ i := fun {k} h3 h4 => by
    rw [h4, hb] at h3
    cases h3
    exact hne rfl
  by_cases hcz : c.id = z.id
  · rw [if_pos hcz] at e
    obtain ⟨rfl, rfl⟩ := hg.uniq m' k' m _ c z hm' hm hc' hz hcz
    have := hil hc'
    unfold getS
    rw [e]
    simp only
    rw [List.getD_eq_getElem?_getD, cutT_get, if_pos rfl, if_pos (by omega), if_pos rfl, hc']
    rfl
  · rw [if_neg hcz, hf] at e
    unfold getS
    rw [e]
    simp only
    rw [List.getD_eq_getElem?_getD, cutT_get]
    by_cases hmm : m' = m
    · subst hmm
      have h1 := hil hc'
      have h2 : k' ≠ (T m').length - 1 := fun h => hcz (by
        rw [h, hz] at hc'
        cases hc'
        rfl)
      have h3 := (List.getElem?_eq_some_iff.1 hc').1
      rw [if_pos rfl, if_pos (by omega), if_neg h1, hc']
      rfl
    · rw [if_neg hmm, hc']
      rfl
theorem row_at {W wx : World} {S : Nat} {T : Tabs} {l : List Asn} (h : Own W wx (storeA S T :: l)) (a : IdR) (ha : IdW a) (m k : Nat) (hf : findT T a = some (m, k)) :
    Calls Try.prog 14 #[chP S, a.v] wx fun e w' => e = .returned (.tuple #[nI k, .bool true]) ∧ wx.Plus w' := by
  have := row_store h a ha
  rw [hf] at this
  exact this
/-- the row is the last one of those that were met -/
def Most (T : Tabs) (xs : List BdR) (m j k : Nat) : Prop := ∀ j' c k', j' < j → xs[j']? = some c → findT T c.id = some (m, k') → k' ≤ k
theorem Most.zero (T : Tabs) (xs : List BdR) (m k : Nat) : Most T xs m 0 k := fun j' c k' h => by omega
theorem Most.other {T : Tabs} {xs : List BdR} {m j k m' k' : Nat} {c : BdR} (h : Most T xs m j k) (hc : xs[j]? = some c) (hf : findT T c.id = some (m', k')) (hn : m' = m → k' ≤ k) : Most T xs m (j + 1) k := by
  intro j2 c2 k2 hj h2 hf2
  rcases Nat.lt_or_ge j2 j with h3 | h3
  · exact h j2 c2 k2 h3 h2 hf2
  · obtain rfl : j2 = j := by omega
    rw [hc] at h2
    cases h2
    rw [hf] at hf2
    cases hf2
    exact hn rfl
theorem Most.more {T : Tabs} {xs : List BdR} {m j k k2 : Nat} (h : Most T xs m j k) (hk : k ≤ k2) : Most T xs m j k2 := fun j' c k' h1 h2 h3 => Nat.le_trans (h j' c k' h1 h2 h3) hk
theorem Most.last {T : Tabs} (hg : GoodT T) {m k n : Nat} {z : BdR} (hm : m < 32) (hz : (T m)[k]? = some z) (hn : n = (allT T).length) (h : Most T (allT T) m n k) : k = (T m).length - 1 := by
  have hkl := (List.getElem?_eq_some_iff.1 hz).1
  have hl : (T m)[(T m).length - 1]? = some (T m)[(T m).length - 1] := List.getElem?_eq_getElem (by omega)
  obtain ⟨j, hj⟩ := List.getElem?_of_mem (in_all hm hl)
  have h1 := h j _ _ (by rw [hn]; exact (List.getElem?_eq_some_iff.1 hj).1) hj (findT_of hg hm hl)
  omega
theorem Own.setId {W w : World} {l : List Asn} {Z : Nat} {a : IdR} (h : Own W w (cellsA Z a.cs :: l)) (c : IdR) : Own W (w.setCells Z 0 c.cs) (cellsA Z c.cs :: l) :=
  ((h.setCell (i := 0) (v := nI c.s) (by simp [IdR.cs])).setCell (i := 1) (v := nI c.i) (by simp [IdR.cs])).setCell (i := 2) (v := nI c.g) (by simp [IdR.cs])
theorem rm_there {W wx : World} {S : Nat} {T : Tabs} {l : List Asn} (h : Own W wx (storeA S T :: l)) (hg : GoodT T) (a : IdR) (ha : IdW a) (ht : total T ≤ 90000) (m i : Nat) (hf : findT T a = some (m, i)) :
    Calls Try.prog 28 #[chP S, a.v] wx (OwnTo W (.bool true) (storeA S (cutT T m i) :: l)) := by
  have := remove_O h hg a ha ht
  unfold removeS at this
  rw [hf] at this
  exact this
theorem rm_gone {W wx : World} {S : Nat} {T : Tabs} {l : List Asn} (h : Own W wx (storeA S T :: l)) (hg : GoodT T) (a : IdR) (ha : IdW a) (ht : total T ≤ 90000) (hf : findT T a = none) :
    Calls Try.prog 28 #[chP S, a.v] wx (OwnTo W (.bool false) (storeA S T :: l)) := by
  have := remove_O h hg a ha ht
  unfold removeS at this
  rw [hf] at this
  exact this
theorem len_at {W wx : World} {S : Nat} {T : Tabs} {l : List Asn} (h : Own W wx (storeA S T :: l)) (q : Nat) (hq : total T = q) :
    Calls Try.prog 16 #[chP S] wx fun e w' => e = .returned (nI q) ∧ wx.Plus w' := by
  have := len_store h
  rw [hq] at this
  exact this
theorem idw0 : IdW ⟨0, 0, 0⟩ := ⟨⟨by decide, by decide⟩, ⟨by decide, by decide⟩, ⟨by decide, by decide⟩⟩
set_option maxRecDepth 100000 in
set_option maxHeartbeats 400000 in
theorem archSwaps_any (W : World) (ds : List DeedR) (A : Option Addr) (cp : Nat) (pos : Int) (hc : ds.length ≤ cp) (hn : cp ≤ 9223372036854775807) (hr : RowsAt W A 12 ds.length (dRow ds)) (hid : ∀ d ∈ ds, IdW d.b.id) :
    Calls Try.prog 8 #[.slice A ds.length cp, nI pos] W fun e w' => e = .returned (.bool true) ∧ W.Plus w' := by
  have k1 := Lib.hid (made_O (Own.start W) ds A cp hc hn hr hid)
  obtain ⟨G, C, hT⟩ := run_good (ds.take 60)
  rw [List.length_take] at hT
  generalize runT (ds.take 60) = T at *
  have hT6 : total T ≤ 60 := by omega
  have hal := allT_length T
  clear hr hid hc hn hT
  have k24 : RowKit.Hid (∀ (S : Nat) (wz : World), Own W wz [storeA S T] → Calls Try.prog 24 #[chP S, nI 10000] wz fun e w' => ∃ A c, e = .returned (.slice A (allT T).length c) ∧ Own W w' [slA 11 (.slice A (allT T).length c) (allT T).length (bdsCs (allT T)), storeA S T]) := Lib.hid (fun S wz O => (lall_O O G (by omega) 10000 (by omega)).mono (by
    rintro e w' ⟨A, c, q, hq, rfl, O9⟩
    have h2 : (allT T).take 10000 = allT T := List.take_of_length_le (by rw [allT_length]; omega)
    obtain rfl : q = allT T := Eq.trans hq h2
    exact ⟨A, c, rfl, O9⟩))
  replace G := Lib.hid G
  replace C := Lib.hid C
  obtain ⟨xs, hxs⟩ : ∃ xs, xs = allT T := ⟨_, rfl⟩
  obtain ⟨n, hn⟩ : ∃ n, n = xs.length := ⟨_, rfl⟩
  have hnt : n = total T := by rw [hn, hxs, hal]
  rw [← hxs, ← hn] at k24
  have hn60 : n ≤ 60 := by omega
  clear hal
  replace hxs := Lib.hid hxs
  replace hn := Lib.hid hn
  replace hnt := Lib.hid hnt
  go_enter Try.func8, Try.ntmps8
  go_upto_region 3 with (first
    | (go_at_call 11; (with_reducible refine k1.out.mono ?_); rintro e w1 ⟨S, rfl, O1⟩; replace O1 := Lib.hid O1)
    | (go_at_call 24; (with_reducible refine (k24.out _ _ O1.out).mono ?_); rintro e w2 ⟨A2, c2, rfl, O2⟩; replace O2 := Lib.hid (O2.pull 1 rfl)))
  clear k1 k24 O1
  by_cases h0 : n = 0
  · subst h0
    have kR := Lib.hid (fun wz (p : w2.Plus wz) => remove_O (Own.atP O2.out wz p) G.out ⟨0, 0, 0⟩ idw0 (by omega))
    have hrm : (removeS T ⟨0, 0, 0⟩).2 = false := by unfold removeS; rw [find_empty hnt.out.symm]
    rw [hrm] at kR
    replace hrm := Lib.hid hrm
    replace O2 := Lib.hid O2.out
    go_wp2_with (first
      | (go_at_call 28; (with_reducible refine (kR.out _ (by (repeat (first | exact Plus.refl _ | apply Plus.plus | apply Plus.alloc | apply Plus.drew)))).mono ?_); rintro e w4 ⟨rfl, O4⟩)
      | (go_at_call 17; (with_reducible refine (awake_any _).mono ?_); rintro e w' ⟨rfl, e9, rfl⟩))
    go_ret
    exact ⟨rfl, Plus.plus O4.p e9⟩
  · have hb0 : ((n : Int) == 0) = false := by simpa using h0
    go_upto_if 29 with fail
    go_upto_region 5 with fail
    obtain ⟨t, p, ht, hw, htp, hpn, ht1, ht2⟩ := remNN pos n (by omega) (by omega)
    have hw0 : wrap64 t = t := w64of (by omega) (by omega)
    have hnz : ¬ (n : Int) = 0 := by omega
    obtain ⟨b, hb⟩ : ∃ b, xs[p]? = some b := ⟨_, List.getElem?_eq_getElem (by rw [← hn.out]; exact hpn)⟩
    have hba : b ∈ allT T := by rw [← hxs.out]; exact List.mem_of_getElem? hb
    obtain ⟨m, i, hm, hTb, hfb⟩ := all_find G.out b hba
    have hbid := okB_id (G.out.ok m hm b (List.mem_of_getElem? hTb)).1
    have hbm := (G.out.ok m hm b (List.mem_of_getElem? hTb)).2
    have hil := (List.getElem?_eq_some_iff.1 hTb).1
    have hil2 := len_total T m hm
    obtain ⟨g, o, hA2, hgw, hX⟩ := sl_bd (O2.out.sl 1 rfl) p b hb hpn
    obtain ⟨a0, a1, a2, a3, a4, a5, a6, a7, a8, a9, a10⟩ := hX
    subst hA2
    have O3 : Own W (w2.alloc (.cells #[nI b.id.s, nI b.id.i, nI b.id.g, nI b.mask, nI b.x, nI b.y, nI b.vx, nI b.vy, nI b.hp, nI b.pw, nI b.lf] 33)) (cellsA w2.heap.size b.cs :: storeA S T :: slA 11 (.slice (some ⟨g, o, none⟩) n c2) n (bdsCs xs) :: []) := O2.out.newCells b.cs 33
    replace O3 := Lib.hid (O3.pull 1 rfl)
    clear O2 hb
    replace hba := Lib.hid hba
    replace hm := Lib.hid hm
    replace hTb := Lib.hid hTb
    replace hfb := Lib.hid hfb
    replace hbid := Lib.hid hbid
    replace hbm := Lib.hid hbm
    have hpi : (p : Int) < n := by omega
    go_upto_region 6 with fail
    obtain ⟨w3, hw3⟩ : ∃ w3, w2.alloc (.cells #[nI b.id.s, nI b.id.i, nI b.id.g, nI b.mask, nI b.x, nI b.y, nI b.vx, nI b.vy, nI b.hp, nI b.pw, nI b.lf] 33) = w3 := ⟨_, rfl⟩
    rw [hw3] at O3 ⊢
    generalize w2.heap.size = Y at *
    clear hw3 a0 a1 a2 a3 a4 a5 a6 a7 a8 a9 a10 hgw ht hw htp hw0 hnz ht1 ht2 hpn hpi h0 hb0
    obtain ⟨hInY, y0, y1, y2, y3, y4, y5, y6, y7, y8, y9, y10⟩ := boxAt (b := b) 1 O3.out rfl
    have kR := Lib.hid (fun wz (p : w3.Plus wz) => row_at (Own.atP O3.out wz p) b.id hbid.out m i hfb.out)
    go_upto_region 7 with (go_at_call 14; (with_reducible refine (kR.out _ (by (repeat (first | exact Plus.refl _ | apply Plus.plus | apply Plus.alloc | apply Plus.drew)))).mono ?_); rintro e w' ⟨rfl, e1, rfl⟩)
    have O4 : Own W ((w3.plus e1).alloc (.cells #[nI b.id.s, nI b.id.i, nI b.id.g] 31)) (cellsA (w3.heap.size + e1.objs.size) b.id.cs :: storeA S T :: cellsA Y b.cs :: slA 11 (.slice (some ⟨g, o, none⟩) n c2) n (bdsCs xs) :: []) := by
      have := (Own.plus O3.out e1).newCells b.id.cs 31
      rw [World.size_plus_eq] at this
      exact this
    replace O4 := Lib.hid O4
    clear kR O3
    go_upto_region 8 with fail
    obtain ⟨w4, hw4⟩ : ∃ w4, (w3.plus e1).alloc (.cells #[nI b.id.s, nI b.id.i, nI b.id.g] 31) = w4 := ⟨_, rfl⟩
    rw [hw4] at O4 ⊢
    generalize w3.heap.size + e1.objs.size = Z at *
    clear hw4 y0 y1 y2 y3 y4 y5 y6 y7 y8 y9 y10 hInY
    go_wp2_with fail
    have hTl : ∀ (m2 k2 : Nat) (c : IdR), findT T c = some (m2, k2) → k2 < total T := fun m2 k2 c hf => by
      obtain ⟨h1, b2, h2, _⟩ := findT_some hf
      have h3 := (List.getElem?_eq_some_iff.1 h2).1
      have h4 := len_total T m2 h1
      omega
    replace hTl := Lib.hid hTl
    replace hil := Lib.hid hil
    replace hil2 := Lib.hid hil2
    go_loopw [11, 12] (fun q v wr => ∃ (j k : Nat) (z : BdR), j ≤ n ∧ v = nI j ∧ q = nI k ∧ i ≤ k ∧ k < 60 ∧ (T m)[k]? = some z ∧ Most T xs m j k ∧ Own W wr (cellsA Z z.id.cs :: storeA S T :: cellsA Y b.cs :: slA 11 (.slice (some ⟨g, o, none⟩) n c2) n (bdsCs xs) :: [])) (fun _ v _ => n - (intOf v).toNat)
    case atStart => exact ⟨0, i, b, by omega, rfl, rfl, Nat.le_refl _, by have h1 := hil.out; have h2 := hil2.out; omega, hTb.out, Most.zero T xs m i, O4.out⟩
    case round =>
      clear O4
      obtain ⟨j, k, z, hj, rfl, rfl, hik, hk60, hTz, hM, O5⟩ := hrel
      rename World => wr
      have B5 := boxAt (b := b) 2 O5 rfl
      obtain ⟨hInY, y0, y1, y2, y3, y4, y5, y6, y7, y8, y9, y10⟩ := B5
      obtain ⟨lZ, qZ, fZ⟩ := O5.cells 0 rfl
      have z0 := qZ 0 (by simp [IdR.cs])
      have z1 := qZ 1 (by simp [IdR.cs])
      have z2 := qZ 2 (by simp [IdR.cs])
      have f0 := fZ 0
      have f1 := fZ 1
      have f2 := fZ 2
      simp only [IdR.cs, List.getElem?_cons_zero, List.getElem?_cons_succ] at z0 z1 z2
      haveI : InW Z wr := ⟨lZ⟩
      clear qZ fZ lZ
      replace hTz := Lib.hid hTz
      replace hM := Lib.hid hM
      by_cases hlt : j < n
      · have hlti : (j : Int) < n := by omega
        have hjd : decide (j < n) = true := decide_eq_true hlt
        obtain ⟨c, hcx⟩ : ∃ c, xs[j]? = some c := ⟨_, List.getElem?_eq_getElem (by rw [← hn.out]; exact hlt)⟩
        have hca : c ∈ allT T := by rw [← hxs.out]; exact List.mem_of_getElem? hcx
        obtain ⟨m1, k1, hm1, hc1, hf1⟩ := all_find G.out c hca
        have hcid := okB_id (G.out.ok m1 hm1 c (List.mem_of_getElem? hc1)).1
        have hcm := (G.out.ok m1 hm1 c (List.mem_of_getElem? hc1)).2
        have hk1 : k1 < 60 := Nat.lt_of_lt_of_le (hTl.out _ _ _ hf1) hT6
        obtain ⟨g5, o5, hA5, hgw, hX⟩ := sl_bd (O5.sl 3 rfl) j c hcx hlt
        obtain ⟨rfl, rfl⟩ : g5 = g ∧ o5 = o := by
          simp only [Option.some.injEq, Addr.mk.injEq] at hA5
          exact ⟨hA5.1.symm, hA5.2.1.symm⟩
        obtain ⟨a0, a1, a2, a3, a4, a5, a6, a7, a8, a9, a10⟩ := hX
        have kR := Lib.hid (fun wz (p : wr.Plus wz) => row_at (Own.atP (O5.pull 1 rfl) wz p) c.id hcid m1 k1 hf1)
        have hother := Lib.hid (Most.other (c := c) hM.out hcx hf1)
        have hmore := Lib.hid (fun (h : k ≤ k1) => Most.other (c := c) (hM.out.more h) hcx hf1 (fun _ => Nat.le_refl _))
        have hTc : RowKit.Hid (m1 = m → (T m)[k1]? = some c) := Lib.hid (fun h => by rw [← h]; exact hc1)
        clear hA5 hcx hca hc1 hcid hf1
        replace hm1 := Lib.hid hm1
        have kS := Lib.hid (fun wz (p : (((wr.setCell ⟨Z, 0, none⟩ (nI c.id.s)).setCell ⟨Z, 1, none⟩ (nI c.id.i)).setCell ⟨Z, 2, none⟩ (nI c.id.g)).Plus wz) => Own.atP (Own.setId O5 c.id) wz p)
        have kO := Lib.hid (fun wz (p : wr.Plus wz) => Own.atP O5 wz p)
        clear O5 hM
        by_cases hmm : c.mask = b.mask
        · have hmb : (c.mask == b.mask) = true := by rw [hmm]; simp
          have hmeq : m1 = m := by have h2 := hbm.out; omega
          have hTc2 := Lib.hid (hTc.out hmeq)
          replace hmm := Lib.hid hmm
          replace hcm := Lib.hid hcm
          replace hmeq := Lib.hid hmeq
          by_cases hge : k ≤ k1
          · have hgd : decide (k ≤ k1) = true := decide_eq_true hge
            have hmo := Lib.hid (hmore.out hge)
            go_upto_region 12 with (go_at_call 14; (with_reducible refine (kR.out _ (by (repeat (first | exact Plus.refl _ | apply Plus.plus | apply Plus.alloc | apply Plus.drew)))).mono ?_); rintro e w' ⟨rfl, e2, rfl⟩)
            refine wp_region_grow (by kernel_rfl) (by kernel_rfl) ?_
            repeat (go_big_quiet_step (fail))
            refine wpQuiet_nil ?_
            intro ex
            go_wp2_with fail
            go_roundw
            case rel => exact ⟨j + 1, k1, c, hlt, by go_num, rfl, by omega, hk1, hTc2.out, hmo.out, kS.out _ (by (repeat (first | exact Plus.refl _ | apply Plus.plus | apply Plus.alloc | apply Plus.drew)))⟩
            case measure => simp [intOf]; omega
          · have hgd : decide (k ≤ k1) = false := decide_eq_false hge
            have hmo := Lib.hid (hother.out (fun _ => by omega))
            go_upto_region 12 with (go_at_call 14; (with_reducible refine (kR.out _ (by (repeat (first | exact Plus.refl _ | apply Plus.plus | apply Plus.alloc | apply Plus.drew)))).mono ?_); rintro e w' ⟨rfl, e2, rfl⟩)
            refine wp_region_grow (by kernel_rfl) (by kernel_rfl) ?_
            repeat (go_big_quiet_step (fail))
            refine wpQuiet_nil ?_
            intro ex
            go_wp2_with fail
            go_roundw
            case rel => exact ⟨j + 1, k, z, hlt, by go_num, rfl, hik, hk60, hTz.out, hmo.out, kO.out _ (by (repeat (first | exact Plus.refl _ | apply Plus.plus | apply Plus.alloc | apply Plus.drew)))⟩
            case measure => simp [intOf]; omega
        · have hmb : (c.mask == b.mask) = false := by simpa using hmm
          have hmo := Lib.hid (hother.out (fun h => absurd (by rw [hcm, hbm.out, h]) hmm))
          replace hmm := Lib.hid hmm
          replace hcm := Lib.hid hcm
          go_upto_region 12 with (go_at_call 14; (with_reducible refine (kR.out _ (by (repeat (first | exact Plus.refl _ | apply Plus.plus | apply Plus.alloc | apply Plus.drew)))).mono ?_); rintro e w' ⟨rfl, e2, rfl⟩)
          refine wp_region_grow (by kernel_rfl) (by kernel_rfl) ?_
          repeat (go_big_quiet_step (fail))
          refine wpQuiet_nil ?_
          intro ex
          go_wp2_with fail
          go_roundw
          case rel => exact ⟨j + 1, k, z, hlt, by go_num, rfl, hik, hk60, hTz.out, hmo.out, kO.out _ (by (repeat (first | exact Plus.refl _ | apply Plus.plus | apply Plus.alloc | apply Plus.drew)))⟩
          case measure => simp [intOf]; omega
      · obtain rfl : j = n := by omega
        have hjd : decide (j < j) = false := by simp
        have hlast : k = (T m).length - 1 := by
          have hM2 := hM.out
          rw [hxs.out] at hM2
          exact Most.last G.out hm.out hTz.out (by rw [hn.out, hxs.out]) hM2
        have hTz2 : (T m)[(T m).length - 1]? = some z := by rw [← hlast]; exact hTz.out
        have kC := Lib.hid (copy_O (O5.pull 1 rfl) G.out C.out (by omega))
        clear z0 z1 z2 f0 f1 f2 y0 y1 y2 y3 y4 y5 y6 y7 y8 y9 y10 hInY O5 hM hik hk60
        replace hlast := Lib.hid hlast
        replace hTz2 := Lib.hid hTz2
        go_upto_region 15 with (go_at_call 29; (with_reducible refine kC.out.mono ?_); rintro e w5 ⟨D, rfl, O6⟩)
        have hct := cut_total hfb.out
        obtain ⟨T2, hT2⟩ : ∃ T2, T2 = cutT T m i := ⟨_, rfl⟩
        have hG2 : GoodT T2 := by rw [hT2]; exact good_cut G.out m i
        have hfn2 : findT T2 b.id = none := by rw [hT2]; exact find_cut_self G.out hfb.out
        obtain ⟨q, hq⟩ : ∃ q, q = total T2 := ⟨_, rfl⟩
        have hqj : j = q + 1 := by rw [← hT2, ← hq] at hct; have h2 := hnt.out; omega
        have hjq : (j : Int) - 1 = (q : Int) := by omega
        have O6' := O6.pull 1 rfl
        have kA := rm_there O6' G.out b.id hbid.out (by omega) m i hfb.out
        rw [← hT2] at kA
        replace kA := Lib.hid kA
        have B6 := boxAt (b := b) 3 O6' rfl
        obtain ⟨hInY, y0, y1, y2, y3, y4, y5, y6, y7, y8, y9, y10⟩ := B6
        clear O6' O6 hct kC
        replace hT2 := Lib.hid hT2
        replace hG2 := Lib.hid hG2
        replace hfn2 := Lib.hid hfn2
        replace hq := Lib.hid hq
        have hq60 : q ≤ 60 := by omega
        replace hqj := Lib.hid hqj
        go_upto_if 118 with (first
          | (go_at_call 28; (with_reducible refine kA.out.mono ?_); rintro e w6 ⟨rfl, O7⟩; clear kA; obtain ⟨hInY6, x0, x1, x2, x3, x4, x5, x6, x7, x8, x9, x10⟩ := boxAt (b := b) 3 O7 rfl; have kB := Lib.hid (rm_gone O7 hG2.out b.id hbid.out (by rw [← hq.out]; omega) hfn2.out); replace O7 := Lib.hid O7)
          | (go_at_call 28; (with_reducible refine kB.out.mono ?_); rintro e w7 ⟨rfl, O8⟩; clear kB O7; have kL := Lib.hid (len_at O8 q hq.out.symm); replace O8 := Lib.hid O8)
          | (go_at_call 16; (with_reducible refine kL.out.mono ?_); rintro e w' ⟨rfl, e8, rfl⟩))
        have O9 : Own W (w7.plus e8) (storeA S T2 :: storeA D T :: cellsA Z z.id.cs :: cellsA Y b.cs :: slA 11 (.slice (some ⟨g, o, none⟩) j c2) j (bdsCs xs) :: []) := Own.plus O8.out e8
        obtain ⟨w8, hw8⟩ : ∃ w8, w7.plus e8 = w8 := ⟨_, rfl⟩
        rw [hw8] at O9 ⊢
        have kO := Lib.hid (fun wz (p : w8.Plus wz) => Own.atP O9 wz p)
        have hp8 : W.Plus w8 := O9.p
        have hcg := Lib.hid (fun c hc hne => cut_get (b := b) (z := z) G.out hm.out hTb.out hTz2.out c hc hne)
        have hfc := Lib.hid (fun c => find_cut (b := b) (z := z) G.out hm.out hTb.out hTz2.out c)
        rw [← hT2.out] at hcg hfc
        clear hw8 O8 kL x0 x1 x2 x3 x4 x5 x6 x7 x8 x9 x10 hInY6 y0 y1 y2 y3 y4 y5 y6 y7 y8 y9 y10 hInY hjd hlt hj O9 hjq hlast hTz hTz2 hba
        have hi60 : i < 60 := Nat.lt_of_lt_of_le (hTl.out _ _ _ hfb.out) hT6
        replace hp8 := Lib.hid hp8
        go_wp2_with fail
        go_loopw [16] (fun v wr => ∃ i : Nat, i ≤ j ∧ v = nI i ∧ w8.Plus wr) (fun v _ => j - (intOf v).toNat)
        case atStart => exact ⟨0, by omega, rfl, Plus.refl _⟩
        case round =>
          obtain ⟨r, hr, rfl, hp⟩ := hrel
          rename World => wy
          have O9 := kO.out _ hp
          have B9 := boxAt (b := b) 3 O9 rfl
          obtain ⟨hInY, y0, y1, y2, y3, y4, y5, y6, y7, y8, y9, y10⟩ := B9
          obtain ⟨lZ, qZ, _⟩ := O9.cells 2 rfl
          have z0 := qZ 0 (by simp [IdR.cs])
          have z1 := qZ 1 (by simp [IdR.cs])
          have z2 := qZ 2 (by simp [IdR.cs])
          simp only [IdR.cs, List.getElem?_cons_zero, List.getElem?_cons_succ] at z0 z1 z2
          haveI : InW Z wy := ⟨lZ⟩
          clear qZ lZ
          by_cases hlt : r < j
          · have hlti : (r : Int) < j := by omega
            have hjd : decide (r < j) = true := decide_eq_true hlt
            obtain ⟨c, hcx⟩ : ∃ c, xs[r]? = some c := ⟨_, List.getElem?_eq_getElem (by rw [← hn.out]; exact hlt)⟩
            have hca : c ∈ allT T := by rw [← hxs.out]; exact List.mem_of_getElem? hcx
            obtain ⟨m1, k1, hm1, hc1, hf1⟩ := all_find G.out c hca
            have hcid := okB_id (G.out.ok m1 hm1 c (List.mem_of_getElem? hc1)).1
            have hk1 : k1 < 60 := Nat.lt_of_lt_of_le (hTl.out _ _ _ hf1) hT6
            obtain ⟨g5, o5, hA5, hgw, hX⟩ := sl_bd (O9.sl 4 rfl) r c hcx hlt
            obtain ⟨rfl, rfl⟩ : g5 = g ∧ o5 = o := by
              simp only [Option.some.injEq, Addr.mk.injEq] at hA5
              exact ⟨hA5.1.symm, hA5.2.1.symm⟩
            obtain ⟨a0, a1, a2, a3, a4, a5, a6, a7, a8, a9, a10⟩ := hX
            have kG := fun wz (p : wy.Plus wz) => get_store (kO.out _ (Plus.trans hp p)) hG2.out c.id hcid (by rw [← hq.out]; omega)
            have kS := fun wz (p : wy.Plus wz) => row_store (kO.out _ (Plus.trans hp p)) c.id hcid
            have kD := Lib.hid (fun wz (p : wy.Plus wz) => row_at ((kO.out _ (Plus.trans hp p)).pull 1 rfl) c.id hcid m1 k1 hf1)
            have heq := eqId3 c.id.s c.id.i c.id.g b.id.s b.id.i b.id.g
            have heq2 := eqId3 c.id.s c.id.i c.id.g z.id.s z.id.i z.id.g
            have hfc1 := hfc.out c.id
            have hcg1 := hcg.out c hca
            rw [hf1] at hfc1
            clear hA5 hcx hca hc1 hcid hf1 O9 hm1
            replace hp := Lib.hid hp
            by_cases hid : c.id = b.id
            · rw [if_pos hid] at hfc1
              rw [hfc1] at kG kS
              simp only [Option.isSome_none, Option.elim_none] at kG kS
              obtain ⟨xg, hxg⟩ : ∃ xg, xg = getS T2 c.id := ⟨_, rfl⟩
              rw [← hxg] at kG
              rw [decide_eq_true (show (⟨c.id.s, c.id.i, c.id.g⟩ : IdR) = ⟨b.id.s, b.id.i, b.id.g⟩ from hid)] at heq
              replace kG := Lib.hid kG
              replace kS := Lib.hid kS
              clear hcg1 hfc1 hxg heq2
              replace hid := Lib.hid hid
              go_upto_region 23 with (first
                | (go_at_call 13; (with_reducible refine (kG.out _ (by (repeat (first | exact Plus.refl _ | apply Plus.plus | apply Plus.alloc | apply Plus.drew)))).mono ?_); rintro e w' ⟨rfl, e1, rfl⟩)
                | (go_at_call 14; (with_reducible refine (kS.out _ (by (repeat (first | exact Plus.refl _ | apply Plus.plus | apply Plus.alloc | apply Plus.drew)))).mono ?_); rintro e w' ⟨rfl, e2, rfl⟩)
                | (go_at_call 14; (with_reducible refine (kD.out _ (by (repeat (first | exact Plus.refl _ | apply Plus.plus | apply Plus.alloc | apply Plus.drew)))).mono ?_); rintro e w' ⟨rfl, e3, rfl⟩))
              refine wp_region_grow (by kernel_rfl) (by kernel_rfl) ?_
              repeat (go_big_quiet_step (fail))
              refine wpQuiet_nil ?_
              intro ex
              go_wp2_with fail
              go_roundw
              case rel => exact ⟨r + 1, hlt, by go_num, Plus.trans hp.out (by (repeat (first | exact Plus.refl _ | apply Plus.plus | apply Plus.alloc | apply Plus.drew)))⟩
              case measure => simp [intOf]; omega
            · rw [if_neg hid] at hfc1
              rw [hcg1 hid] at kG
              rw [decide_eq_false (show ¬ (⟨c.id.s, c.id.i, c.id.g⟩ : IdR) = ⟨b.id.s, b.id.i, b.id.g⟩ from hid)] at heq
              have hnb := neqBd c c
              rw [decide_eq_true rfl] at hnb
              clear hcg1
              replace hid := Lib.hid hid
              by_cases hcz : c.id = z.id
              · rw [if_pos hcz] at hfc1
                rw [hfc1] at kG kS
                simp only [Option.isSome_some, Option.elim_some] at kG kS
                rw [decide_eq_true (show (⟨c.id.s, c.id.i, c.id.g⟩ : IdR) = ⟨z.id.s, z.id.i, z.id.g⟩ from hcz)] at heq2
                replace kG := Lib.hid kG
                replace kS := Lib.hid kS
                replace hcz := Lib.hid hcz
                clear hfc1
                go_upto_region 23 with (first
                | (go_at_call 13; (with_reducible refine (kG.out _ (by (repeat (first | exact Plus.refl _ | apply Plus.plus | apply Plus.alloc | apply Plus.drew)))).mono ?_); rintro e w' ⟨rfl, e1, rfl⟩)
                | (go_at_call 14; (with_reducible refine (kS.out _ (by (repeat (first | exact Plus.refl _ | apply Plus.plus | apply Plus.alloc | apply Plus.drew)))).mono ?_); rintro e w' ⟨rfl, e2, rfl⟩)
                | (go_at_call 14; (with_reducible refine (kD.out _ (by (repeat (first | exact Plus.refl _ | apply Plus.plus | apply Plus.alloc | apply Plus.drew)))).mono ?_); rintro e w' ⟨rfl, e3, rfl⟩))
                refine wp_region_grow (by kernel_rfl) (by kernel_rfl) ?_
                repeat (go_big_quiet_step (fail))
                refine wpQuiet_nil ?_
                intro ex
                go_upto_region 26 with fail
                refine wp_region_grow (by kernel_rfl) (by kernel_rfl) ?_
                repeat (go_big_quiet_step (fail))
                refine wpQuiet_nil ?_
                intro ex
                go_upto_region 28 with fail
                refine wp_region_grow (by kernel_rfl) (by kernel_rfl) ?_
                repeat (go_big_quiet_step (fail))
                refine wpQuiet_nil ?_
                intro ex
                go_wp2_with fail
                go_roundw
                case rel => exact ⟨r + 1, hlt, by go_num, Plus.trans hp.out (by (repeat (first | exact Plus.refl _ | apply Plus.plus | apply Plus.alloc | apply Plus.drew)))⟩
                case measure => simp [intOf]; omega
              · rw [if_neg hcz] at hfc1
                rw [hfc1] at kG kS
                simp only [Option.isSome_some, Option.elim_some] at kG kS
                rw [decide_eq_false (show ¬ (⟨c.id.s, c.id.i, c.id.g⟩ : IdR) = ⟨z.id.s, z.id.i, z.id.g⟩ from hcz)] at heq2
                replace kG := Lib.hid kG
                replace kS := Lib.hid kS
                replace hcz := Lib.hid hcz
                clear hfc1
                go_upto_region 23 with (first
                | (go_at_call 13; (with_reducible refine (kG.out _ (by (repeat (first | exact Plus.refl _ | apply Plus.plus | apply Plus.alloc | apply Plus.drew)))).mono ?_); rintro e w' ⟨rfl, e1, rfl⟩)
                | (go_at_call 14; (with_reducible refine (kS.out _ (by (repeat (first | exact Plus.refl _ | apply Plus.plus | apply Plus.alloc | apply Plus.drew)))).mono ?_); rintro e w' ⟨rfl, e2, rfl⟩)
                | (go_at_call 14; (with_reducible refine (kD.out _ (by (repeat (first | exact Plus.refl _ | apply Plus.plus | apply Plus.alloc | apply Plus.drew)))).mono ?_); rintro e w' ⟨rfl, e3, rfl⟩))
                refine wp_region_grow (by kernel_rfl) (by kernel_rfl) ?_
                repeat (go_big_quiet_step (fail))
                refine wpQuiet_nil ?_
                intro ex
                go_upto_region 26 with fail
                refine wp_region_grow (by kernel_rfl) (by kernel_rfl) ?_
                repeat (go_big_quiet_step (fail))
                refine wpQuiet_nil ?_
                intro ex
                go_upto_region 28 with fail
                refine wp_region_grow (by kernel_rfl) (by kernel_rfl) ?_
                repeat (go_big_quiet_step (fail))
                refine wpQuiet_nil ?_
                intro ex
                go_wp2_with fail
                go_roundw
                case rel => exact ⟨r + 1, hlt, by go_num, Plus.trans hp.out (by (repeat (first | exact Plus.refl _ | apply Plus.plus | apply Plus.alloc | apply Plus.drew)))⟩
                case measure => simp [intOf]; omega
          · obtain rfl : r = j := by omega
            have hjd : decide (r < r) = false := by simp
            have hp9 := Lib.hid (Plus.trans hp8.out hp)
            clear O9 hp y0 y1 y2 y3 y4 y5 y6 y7 y8 y9 y10 z0 z1 z2
            go_wp2_with (go_at_call 17; (with_reducible refine (awake_any _).mono ?_); rintro e w' ⟨rfl, e9, rfl⟩)
            go_ret
            exact ⟨rfl, Plus.plus hp9.out e9⟩
end Go.Proofs.Ytanbppejfhnjbaa
