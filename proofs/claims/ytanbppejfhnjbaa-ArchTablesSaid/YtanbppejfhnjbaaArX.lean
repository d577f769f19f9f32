/- ArchTables: walk. -/
import Derived.Test.YtanbppejfhnjbaaArW
set_option linter.unusedSimpArgs false
set_option linter.unusedVariables false
namespace Go.Proofs.Ytanbppejfhnjbaa
open Go.RowKit
theorem dbl_tab {T : Tabs} {m k : Nat} {e : IdR} (h : ((T m).map (·.id))[k]? = some e) : ∃ b, (T m)[k]? = some b ∧ b.id = e := by
  rw [List.getElem?_map, Option.map_eq_some_iff] at h
  exact h
set_option maxRecDepth 100000 in
set_option maxHeartbeats 400000 in
theorem archTables_any (W : World) (ds : List DeedR) (A : Option Addr) (cp : Nat) (hc : ds.length ≤ cp) (hn : cp ≤ 9223372036854775807) (hr : RowsAt W A 12 ds.length (dRow ds)) (hid : ∀ d ∈ ds, IdW d.b.id) :
    Calls Try.prog 3 #[.slice A ds.length cp] W fun e w' => e = .returned (.bool true) ∧ W.Plus w' := by
  have k1 := Lib.hid (made_O (Own.start W) ds A cp hc hn hr hid)
  obtain ⟨G, C, hT⟩ := run_good (ds.take 60)
  rw [List.length_take] at hT
  generalize runT (ds.take 60) = T at *
  have hT6 : total T ≤ 60 := by omega
  clear hr hid hc hn hT C
  replace G := Lib.hid G
  go_enter Try.func3, Try.ntmps3
  go_upto_region 3 with (first
    | (go_at_call 11; (with_reducible refine k1.out.mono ?_); rintro e w1 ⟨S, rfl, O1⟩; replace O1 := Lib.hid O1)
    | (go_at_call 12; (with_reducible refine (tables_O O1.out (by omega)).mono ?_); rintro e w2 ⟨A2, c2, L, rfl, O2, hL⟩; replace hL := Lib.hid hL; replace O2 := Lib.hid O2))
  have hLb := tabs_ids hL.out (by omega)
  have hcnt := Lib.hid (cntL_all hL.out)
  obtain ⟨hL32, hLi⟩ := hLb
  obtain ⟨n, hn⟩ : ∃ n, n = L.length := ⟨_, rfl⟩
  rw [← hn] at hL32
  have O3 : Own W w2 (storeA S T :: tblL (.slice A2 L.length c2) L) := (O2.out.pull 2 rfl)
  rw [show (Value.slice A2 L.length c2) = .slice A2 n c2 by rw [hn]]
  replace hn := Lib.hid hn
  replace hLi := Lib.hid hLi
  replace O3 := Lib.hid O3
  clear O2 O1 k1
  go_wp2_with fail
  go_loopw [5, 6] (fun c v wr => ∃ i : Nat, i ≤ n ∧ v = nI i ∧ c = nI (cntL (L.take i)) ∧ Own W wr (storeA S T :: tblL (.slice A2 L.length c2) L)) (fun _ v _ => n - (intOf v).toNat)
  case atStart => exact ⟨0, by omega, rfl, rfl, O3.out⟩
  case round =>
    clear O3
    obtain ⟨i, hi, rfl, rfl, O2⟩ := hrel
    by_cases hlt : i < n
    · have hlti : (i : Int) < n := by omega
      obtain ⟨x, hx⟩ : ∃ x, L[i]? = some x := ⟨_, List.getElem?_eq_getElem (by rw [← hn.out]; exact hlt)⟩
      obtain ⟨m, hm32, hm0, hxm⟩ := tabs_at hL.out hx
      have hrd : ∀ w', wr.Plus w' → RdT w' A2 c2 L := fun w' p => by
        have : Own W wr (tblL (.slice A2 L.length c2) L ++ (storeA S T :: [])) := (O2.pull 2 rfl).pull 2 rfl
        exact (tbl_rd this).plus p
      obtain ⟨g, o, hA, hg, a0, a1⟩ := tb_cells (hrd wr (Plus.refl _)) i x hx
      have hTa := Lib.hid (fun w' (p : wr.Plus w') => tb_cells (hrd w' p) i x hx)
      have hI := Lib.hid (fun w' (p : wr.Plus w') => (hrd w' p).ids i x hx)
      have hcn := Lib.hid (cntL_take hx)
      have hcb : cntL (L.take i) ≤ 60 ∧ cntL (L.take (i + 1)) ≤ 60 := by
        have : ∀ k, cntL (L.take k) ≤ cntL L := fun k => by
          have h1 : cntL L = cntL (L.take k) + cntL (L.drop k) := by
            unfold cntL
            rw [← List.sum_append, ← List.map_append, List.take_append_drop]
          omega
        have h1 := this i
        have h2 := this (i + 1)
        rw [hcnt.out] at h1 h2
        omega
      have hlt2 := Lib.hid (fun j y (hj : j < i) (hy : L[j]? = some y) => tabs_lt hL.out hj hy hx)
      obtain ⟨⟨xa, xc⟩, xm, ids⟩ := x
      cases hxm
      subst hA
      dsimp only at a0 a1 hTa hI hcn hlt2
      rw [List.length_map] at a1 hTa hI hcn
      obtain ⟨q, hq⟩ : ∃ q, q = (T m).length := ⟨_, rfl⟩
      rw [← hq] at a1 hTa hI hcn hm0
      have hq9 : q ≤ 60 := by rw [hq]; exact Nat.le_trans (len_total T m hm32) hT6
      have hne0 : ((q : Int) == 0) = false := by simp; omega
      have hp := Lib.hid (fun w' (p : wr.Plus w') => Own.atP O2 w' p)
      obtain ⟨c0, hc0⟩ : ∃ c0, c0 = cntL (L.take i) := ⟨_, rfl⟩
      rw [← hc0] at hcn hcb
      rw [← hc0]
      replace hq := Lib.hid hq
      replace hc0 := Lib.hid hc0
      replace O2 := Lib.hid O2
      obtain ⟨hcb1, hcb2⟩ := hcb
      replace hcb2 := Lib.hid hcb2
      have step7 : ∀ e, ∃ w', w' = wr.plus e := fun e => ⟨_, rfl⟩
      clear step7
      go_upto_region 7 with fail
      go_cut [46] (fun v wz => v = .bool false ∧ wr.Plus wz)
      case first =>
        rcases Nat.eq_zero_or_pos i with h0 | h0
        · have h0d : decide (0 < i) = false := by rw [h0]; rfl
          replace h0 := Lib.hid h0
          clear hrd
          refine wp_region_grow (by kernel_rfl) (by kernel_rfl) ?_
          repeat (go_big_quiet_step (fail))
          refine wpQuiet_nil ?_
          intro ex
          go_wp2_with fail
          go_meet
          exact ⟨rfl, Plus.plus (Plus.refl _) ex⟩
        · obtain ⟨j, hj⟩ : ∃ j, i = j + 1 := ⟨i - 1, by omega⟩
          obtain ⟨y, hy⟩ : ∃ y, L[j]? = some y := ⟨_, List.getElem?_eq_getElem (by rw [← hn.out]; omega)⟩
          obtain ⟨g', o', he, _, b0, _⟩ := tb_cells (hrd wr (Plus.refl _)) j y hy
          cases he
          have hlt3 := hlt2.out j y (by omega) hy
          have hge : decide ((m : Int) ≤ y.2.1) = false := decide_eq_false (by omega)
          have hw1 : wrap64 ((i : Int) - 1) = j := by rw [w64_id (by omega) (by omega)]; omega
          have hw2 : IntKind.i64.wrap ((i : Int) - 1) = j := by rw [wrap_id (by omega) (by omega)]; omega
          have hjn : (j : Int) < n := by omega
          have h0i : (0 : Int) < i := by omega
          have h0d : decide (0 < i) = true := decide_eq_true h0
          clear hy hrd
          replace hj := Lib.hid hj
          refine wp_region_grow (by kernel_rfl) (by kernel_rfl) ?_
          repeat (go_big_quiet_step (fail))
          refine wpQuiet_nil ?_
          intro ex
          go_wp2_with fail
          go_meet
          exact ⟨rfl, Plus.plus (Plus.refl _) ex⟩
      obtain ⟨rfl, hcp⟩ := hcut
      have O5 := Lib.hid (hp.out _ hcp)
      clear a0 a1 hg O2 hrd
      clear O5 hlt2 hx
      go_wp2_with fail
      go_loopw [5, 7] (fun c v wz => ∃ k : Nat, k ≤ q ∧ v = nI k ∧ c = nI ((c0 + k : Nat) : Int) ∧ wr.Plus wz) (fun _ v _ => q - (intOf v).toNat)
      case atStart => exact ⟨0, by omega, rfl, rfl, hcp⟩
      case round =>
        clear hcp
        obtain ⟨k, hk, rfl, rfl, hcp⟩ := hrel
        rename World => wz
        obtain ⟨g', o', he, hg, a0, a1⟩ := hTa.out _ hcp
        cases he
        by_cases hkt : k < q
        · have hkti : (k : Int) < q := by omega
          have hkd : decide (k < q) = true := decide_eq_true hkt
          obtain ⟨b, hb⟩ : ∃ b, (T m)[k]? = some b := ⟨_, List.getElem?_eq_getElem (by rw [← hq.out]; exact hkt)⟩
          have hbi : ((T m).map (·.id))[k]? = some b.id := by rw [List.getElem?_map, hb]; rfl
          obtain ⟨g3, o3, rfl, hg3, d0, d1, d2⟩ := id_cells (hI.out _ hcp) k b.id hbi hkt
          obtain ⟨hok, hbm⟩ := G.out.ok m hm32 b (List.mem_of_getElem? hb)
          have hf := findT_of G.out hm32 hb
          have hgs : getS T b.id = b := by
            unfold getS
            rw [hf]
            simp only
            rw [List.getD_eq_getElem?_getD, hb]
            rfl
          have kG := fun w' (p : wz.Plus w') => get_store (hp.out _ (Plus.trans hcp p)) G.out b.id (okB_id hok) (by omega)
          have kR := fun w' (p : wz.Plus w') => row_store (hp.out _ (Plus.trans hcp p)) b.id (okB_id hok)
          have kM := Lib.hid (fun w' => may_any b w')
          rw [hgs, hf] at kG
          rw [hf] at kR
          rw [hok] at kM
          simp only [Option.isSome_some, Option.elim] at kG kR
          replace kG := Lib.hid kG
          replace kR := Lib.hid kR
          have hn3 := neqId3 b.id.s b.id.i b.id.g b.id.s b.id.i b.id.g
          rw [decide_eq_true rfl] at hn3
          have hbmm : ((b.mask : Int) != (m : Int)) = false := by rw [hbm]; simp
          have hw1 : wrap64 ((c0 : Int) + k + 1) = ((c0 + (k + 1) : Nat) : Int) := by rw [w64_id (by omega) (by omega)]; omega
          have hw2 : IntKind.i64.wrap ((c0 : Int) + k + 1) = ((c0 + (k + 1) : Nat) : Int) := by rw [wrap_id (by omega) (by omega)]; omega
          replace hcp := Lib.hid hcp
          clear hb hbi hf hgs hok hbm
          go_upto_region 14 with (first
            | (go_at_call 13; (with_reducible refine (kG.out _ (by (repeat (first | exact Plus.refl _ | apply Plus.plus | apply Plus.alloc | apply Plus.drew)))).mono ?_); rintro e w' ⟨rfl, e1, rfl⟩)
            | (go_at_call 14; (with_reducible refine (kR.out _ (by (repeat (first | exact Plus.refl _ | apply Plus.plus | apply Plus.alloc | apply Plus.drew)))).mono ?_); rintro e w' ⟨rfl, e2, rfl⟩))
          refine wp_region_grow (by kernel_rfl) (by kernel_rfl) ?_
          repeat (go_big_quiet_step ((go_at_call 15; exact Calls.plus_of (kM.out _))))
          refine wpQuiet_nil ?_
          intro ex
          go_wp2_with fail
          go_roundw
          case rel => exact ⟨k + 1, hkt, by go_num, rfl, Plus.trans hcp.out (by (repeat (first | exact Plus.refl _ | apply Plus.plus | apply Plus.alloc | apply Plus.drew)))⟩
          case measure => simp [intOf]; omega
        · obtain rfl : k = q := by omega
          have hkd : decide (k < k) = false := by simp
          have hcc : ((c0 + k : Nat) : Int) = (cntL (L.take (i + 1)) : Int) := by rw [hcn.out]
          have O5 := Lib.hid (hp.out _ hcp)
          rw [hcc]
          clear hcp
          go_wp2_with fail
          go_roundw
          case rel => exact ⟨i + 1, hlt, by go_num, rfl, O5.out⟩
          case measure => simp [intOf]; omega
    · obtain rfl : i = n := by omega
      rw [hn.out, List.take_length, hcnt.out]
      have kL := Lib.hid (len_store O2)
      have hpl := Lib.hid O2.p
      clear O2
      go_wp2_with (first
        | (go_at_call 16; (with_reducible refine kL.out.mono ?_); rintro e w' ⟨rfl, e1, rfl⟩)
        | (go_at_call 17; (with_reducible refine (awake_any _).mono ?_); rintro e w' ⟨rfl, e9, rfl⟩))
      go_ret
      exact ⟨rfl, Plus.plus (Plus.plus hpl.out e1) e9⟩
end Go.Proofs.Ytanbppejfhnjbaa
