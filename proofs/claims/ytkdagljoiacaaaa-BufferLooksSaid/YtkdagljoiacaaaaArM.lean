/- arch: the reference's SameTables: walk. -/
import Derived.Test.YtkdagljoiacaaaaArJ
set_option linter.unusedSimpArgs false
set_option linter.unusedVariables false
namespace Go.Proofs.Ytkdagljoiacaaaa
open Go.RowKit
/-- tables that can be read -/
structure RdT (w : World) (A : Option Addr) (c : Nat) (L : List (Ad × TbR)) : Prop where
  tb : Sl w 2 (.slice A L.length c) L.length (tbCs L)
  ids : ∀ (i : Nat) x, L[i]? = some x → Sl w 3 (.slice x.1.1 x.2.2.length x.1.2) x.2.2.length (idsCs x.2.2)
theorem RdT.plus {w w' : World} {A : Option Addr} {c : Nat} {L : List (Ad × TbR)} (h : RdT w A c L) (p : w.Plus w') : RdT w' A c L := by
  obtain ⟨e, rfl⟩ := p
  exact ⟨h.tb.plus e, fun i x hx => (h.ids i x hx).plus e⟩
theorem tbl_rd {W w : World} {A : Option Addr} {c : Nat} {L : List (Ad × TbR)} {l : List Asn} (h : Own W w (tblL (.slice A L.length c) L ++ l)) : RdT w A c L := by
  refine ⟨h.sl 0 rfl, fun i x hx => ?_⟩
  have h1 : Own W w (L.map idA ++ (slA 2 (.slice A L.length c) L.length (tbCs L) :: l)) := (Own.rot1 h).both
  have hi := (List.getElem?_eq_some_iff.1 hx).1
  exact (h1.sl i (by rw [List.getElem?_append_left (by rw [List.length_map]; exact hi), List.getElem?_map, hx]; rfl))
theorem id_cells {w : World} {A : Option Addr} {n c : Nat} {xs : List IdR} (h : Sl w 3 (.slice A n c) n (idsCs xs)) (i : Nat) (b : IdR) (hb : xs[i]? = some b) (hi : i < n) : ∃ g o, A = some ⟨g, o, none⟩ ∧ InW g w ∧ w.cell? ⟨g, o + i * 3, none⟩ = some (nI b.s) ∧ w.cell? ⟨g, o + i * 3 + 1, none⟩ = some (nI b.i) ∧ w.cell? ⟨g, o + i * 3 + 2, none⟩ = some (nI b.g) := by
  obtain ⟨g, o, hA, hg, hc⟩ := h.cellsOf (by omega)
  have key : ∀ k, k < 3 → w.cell? ⟨g, o + i * 3 + k, none⟩ = b.cs[k]? := fun k hk => by
    rw [Nat.add_assoc, hc (i * 3 + k) (by omega), idsCs_get _ i b hb k hk]
  exact ⟨g, o, hA, ⟨hg⟩, key 0 (by omega), key 1 (by omega), key 2 (by omega)⟩
theorem tb_cells {w : World} {A : Option Addr} {c : Nat} {L : List (Ad × TbR)} (h : RdT w A c L) (i : Nat) (x : Ad × TbR) (hx : L[i]? = some x) : ∃ g o, A = some ⟨g, o, none⟩ ∧ InW g w ∧ w.cell? ⟨g, o + i * 2, none⟩ = some (nI x.2.1) ∧ w.cell? ⟨g, o + i * 2 + 1, none⟩ = some (.slice x.1.1 x.2.2.length x.1.2) := by
  have hi := (List.getElem?_eq_some_iff.1 hx).1
  obtain ⟨g, o, hA, hg, hc⟩ := h.tb.cellsOf (by omega)
  obtain ⟨h1, h2⟩ := tbCs_get L i x hx
  exact ⟨g, o, hA, ⟨hg⟩, (hc (i * 2) (by omega)).trans h1, (hc (i * 2 + 1) (by omega)).trans h2⟩
set_option maxRecDepth 100000 in
set_option maxHeartbeats 400000 in
theorem sameTables_true (w : World) (A B : Option Addr) (c d n : Nat) (L K : List (Ad × TbR)) (hL0 : RdT w A c L) (hK0 : RdT w B d K) (hLK : L.map (·.2) = K.map (·.2)) (hn : n = L.length) (hn9 : n ≤ 90000) (hids : ∀ x ∈ L, x.2.2.length ≤ 90000) :
    Calls Try.prog 42 #[.slice A n c, .slice B n d] w fun e w' => e = .returned (.bool true) ∧ w.Plus w' := by
  have hKn : n = K.length := by
    have := congrArg List.length hLK
    rw [List.length_map, List.length_map] at this
    omega
  have hL := Lib.hid (fun w' (p : w.Plus w') => hL0.plus p)
  have hK := Lib.hid (fun w' (p : w.Plus w') => hK0.plus p)
  replace hn := Lib.hid hn
  replace hKn := Lib.hid hKn
  replace hLK := Lib.hid hLK
  replace hids := Lib.hid hids
  clear hL0 hK0
  go_enter Try.func42, Try.ntmps42
  go_wp2_with fail
  go_loopw [5] (fun v wr => ∃ i : Nat, i ≤ n ∧ v = nI i ∧ w.Plus wr) (fun v _ => n - (intOf v).toNat)
  case atStart => exact ⟨0, by omega, rfl, Plus.refl _⟩
  case round =>
    obtain ⟨i, hi, rfl, hp⟩ := hrel
    by_cases hlt : i < n
    · have hlti : (i : Int) < n := by omega
      obtain ⟨x, hx⟩ : ∃ x, L[i]? = some x := ⟨_, List.getElem?_eq_getElem (by rw [← hn.out]; exact hlt)⟩
      obtain ⟨y, hy⟩ : ∃ y, K[i]? = some y := ⟨_, List.getElem?_eq_getElem (by rw [← hKn.out]; exact hlt)⟩
      have hxy : x.2 = y.2 := by
        have := congrArg (fun l => l[i]?) hLK.out
        simp only [List.getElem?_map, hx, hy, Option.map_some, Option.some.injEq] at this
        exact this
      obtain ⟨g, o, hA, hg, a0, a1⟩ := tb_cells (hL.out _ hp) i x hx
      obtain ⟨g2, o2, hB, hg2, b0, b1⟩ := tb_cells (hK.out _ hp) i y hy
      have hI := Lib.hid (fun w' (p : w.Plus w') => (hL.out w' p).ids i x hx)
      have hJ := Lib.hid (fun w' (p : w.Plus w') => (hK.out w' p).ids i y hy)
      have hTa := Lib.hid (fun w' (p : w.Plus w') => tb_cells (hL.out w' p) i x hx)
      have hTb := Lib.hid (fun w' (p : w.Plus w') => tb_cells (hK.out w' p) i y hy)
      have hil := hids.out x (List.mem_of_getElem? hx)
      obtain ⟨⟨xa, xc⟩, k, ids⟩ := x
      obtain ⟨⟨ya, yc⟩, k2, ids2⟩ := y
      cases hxy
      subst hA hB
      dsimp only at a0 a1 b0 b1 hI hJ hTa hTb hil
      replace hp := Lib.hid hp
      clear hx hy
      obtain ⟨q, hq⟩ : ∃ q, q = ids.length := ⟨_, rfl⟩
      rw [← hq] at a1 b1 hI hJ hTa hTb hil
      replace hq := Lib.hid hq
      go_upto_region 6 with fail
      refine wp_region_grow (by kernel_rfl) (by kernel_rfl) ?_
      repeat (go_big_quiet_step (fail))
      refine wpQuiet_nil ?_
      intro ex
      go_upto_region 8 with fail
      clear a0 b0 a1 b1 hg hg2
      go_wp2_with fail
      go_loopw [6] (fun v wz => ∃ j : Nat, j ≤ q ∧ v = nI j ∧ w.Plus wz) (fun v _ => q - (intOf v).toNat)
      case atStart => exact ⟨0, by omega, rfl, Plus.plus hp.out ex⟩
      case round =>
        clear hp
        obtain ⟨j, hj, rfl, hp⟩ := hrel
        rename World => wz
        obtain ⟨g', o', he, hg, a0, a1⟩ := hTa.out _ hp
        cases he
        obtain ⟨g', o', he, hg2, b0, b1⟩ := hTb.out _ hp
        cases he
        by_cases hjt : j < q
        · have hjti : (j : Int) < q := by omega
          have hd : decide (j < q) = true := decide_eq_true hjt
          obtain ⟨e, he⟩ : ∃ e, ids[j]? = some e := ⟨_, List.getElem?_eq_getElem (by rw [← hq.out]; exact hjt)⟩
          obtain ⟨g3, o3, rfl, hg3, d0, d1, d2⟩ := id_cells (hI.out _ hp) j e he hjt
          obtain ⟨g4, o4, rfl, hg4, e0, e1, e2⟩ := id_cells (hJ.out _ hp) j e he hjt
          have hne := neqId3 e.s e.i e.g e.s e.i e.g
          rw [decide_eq_true rfl] at hne
          replace hp := Lib.hid hp
          clear he
          go_upto_region 11 with fail
          refine wp_region_grow (by kernel_rfl) (by kernel_rfl) ?_
          repeat (go_big_quiet_step (fail))
          refine wpQuiet_nil ?_
          intro ez
          go_wp2_with fail
          go_roundw
          case rel => exact ⟨j + 1, hjt, by go_num, Plus.plus hp.out ez⟩
          case measure => simp [intOf]; omega
        · obtain rfl : j = q := by omega
          have hd : decide (j < j) = false := by simp
          replace hp := Lib.hid hp
          go_wp2_with fail
          go_roundw
          case rel => exact ⟨i + 1, hlt, by go_num, hp.out⟩
          case measure => simp [intOf]; omega
    · obtain rfl : i = n := by omega
      replace hp := Lib.hid hp
      go_wp2_with fail
      go_ret
      exact ⟨rfl, hp.out⟩
end Go.Proofs.Ytkdagljoiacaaaa
