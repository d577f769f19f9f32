/- codec: Same, SameCmds, SameIDs: walks. -/
import Derived.Test.YtpdlgflbcgemnaaGreatDoorGd
import Derived.Test.YtpdlgflbcgemnaaGreatDoorGa
import Derived.Test.YtpdlgflbcgemnaaGreatDoorGw
set_option linter.unusedSimpArgs false
set_option linter.unusedVariables false
namespace Go.Proofs.YtpdlgflbcgemnaaGreatDoor
open Go.RowKit
set_option maxHeartbeats 1000000
set_option maxRecDepth 100000
theorem loadRowI {w : World} {A : Option Addr} {xs : List IdR} (h : RowsAt w A 3 xs.length (rowFI xs)) (i : Nat) (x : IdR) (hx : xs[i]? = some x) (hi : i < xs.length) :
    ∃ g o, A = some ⟨g, o, none⟩ ∧ g < w.heap.size ∧ ∀ w', w.Plus w' → (loadVar 73 ⟨g, o + i * 3, none⟩).run Tryz.prog w' = .ok x.v w' := by
  obtain ⟨g, o, hA, hg, hc⟩ := h (by omega)
  refine ⟨g, o, hA, hg, fun w' p => run_loadVar_cells x.cs (fun j v hj => ?_) Tryz.underlying73 rfl (by kernel_rfl)⟩
  have hj' := (List.getElem?_eq_some_iff.1 hj).1
  have hq : xs.getD i idZ = x := by rw [List.getD_eq_getElem?_getD, hx]; rfl
  obtain ⟨e, rfl⟩ := p
  rw [w.plus_cell e (p := ⟨g, _, none⟩) hg, Nat.add_assoc, hc i j hi hj']
  unfold rowFI
  rw [hq, List.getD_eq_getElem?_getD, hj]
  rfl
theorem sameI_any (w : World) (A B : Option Addr) (c d : Nat) (xs : List IdR) (hx0 : RowsAt w A 3 xs.length (rowFI xs)) (hy0 : RowsAt w B 3 xs.length (rowFI xs)) (hlen : xs.length ≤ 1048577) :
    Calls Tryz.prog 50 #[.slice A xs.length c, .slice B xs.length d] w fun e w' => e = .returned (.bool true) ∧ w.Plus w' := by
  have hx := Lib.hid (fun wz (p : w.Plus wz) => hx0.plus p)
  have hy := Lib.hid (fun wz (p : w.Plus wz) => hy0.plus p)
  clear hx0 hy0
  obtain ⟨n, hn⟩ : ∃ n, n = xs.length := ⟨_, rfl⟩
  rw [← hn] at hlen ⊢
  replace hn := Lib.hid hn
  have hni : (n : Int) ≤ 1048577 := by omega
  go_enter Tryz.func50, Tryz.ntmps50
  go_wp2_with fail
  go_loopw [5] (fun v wr => ∃ i : Nat, i ≤ n ∧ v = nI i ∧ w.Plus wr) (fun v _ => n - (intOf v).toNat)
  case atStart => exact ⟨0, by omega, rfl, Plus.refl _⟩
  case round =>
    obtain ⟨i, hi, rfl, hp⟩ := hrel
    by_cases hlt : i < n
    · have hlti : (i : Int) < n := by omega
      obtain ⟨x, hxi⟩ : ∃ x, xs[i]? = some x := ⟨_, List.getElem?_eq_getElem (by rw [← hn.out]; exact hlt)⟩
      obtain ⟨g, o, rfl, hg, hX⟩ := loadRowI (hx.out _ hp) i x hxi (by rw [← hn.out]; exact hlt)
      obtain ⟨g2, o2, rfl, hg2, hY⟩ := loadRowI (hy.out _ hp) i x hxi (by rw [← hn.out]; exact hlt)
      replace hp := Lib.hid hp
      replace hX := Lib.hid hX
      replace hY := Lib.hid hY
      replace hx := Lib.hid hx
      replace hy := Lib.hid hy
      clear hxi hg hg2
      go_upto_region 6 with fail
      refine wp_region_grow (by kernel_rfl) (by kernel_rfl) ?_
      repeat (first
        | (go_big_quiet_want; refine quiet_load_R 73 _ rfl (fun w hw => hX.out w hw) rfl ?_; go_big_quiet_on; simp only [Act.put, List.setIfInBounds_toArray, List.set_cons_succ, List.set_cons_zero])
        | (go_big_quiet_want; refine quiet_load_R 73 _ rfl (fun w hw => hY.out w hw) rfl ?_; go_big_quiet_on; simp only [Act.put, List.setIfInBounds_toArray, List.set_cons_succ, List.set_cons_zero])
        | go_big_quiet_step (fail))
      refine wpQuiet_nil ?_
      intro ex
      go_wp2_with fail
      go_roundw
      case rel => exact ⟨i + 1, hlt, by go_num, Plus.plus hp.out ex⟩
      case measure => simp [intOf]; omega
    · obtain rfl : i = n := by omega
      have hkk : ¬ (i : Int) < i := by omega
      replace hp := Lib.hid hp
      go_wp2_with fail
      go_ret
      exact ⟨rfl, hp.out⟩
theorem loadRowB {w : World} {A : Option Addr} {xs : List BdR} (h : RowsAt w A 11 xs.length (rowFB xs)) (i : Nat) (x : BdR) (hx : xs[i]? = some x) (hi : i < xs.length) :
    ∃ g o, A = some ⟨g, o, none⟩ ∧ g < w.heap.size ∧ ∀ w', w.Plus w' → (loadVar 75 ⟨g, o + i * 11, none⟩).run Tryz.prog w' = .ok x.v w' := by
  obtain ⟨g, o, hA, hg, hc⟩ := h (by omega)
  refine ⟨g, o, hA, hg, fun w' p => run_loadVar_cells x.cs (fun j v hj => ?_) Tryz.underlying75 rfl (by kernel_rfl)⟩
  have hj' := (List.getElem?_eq_some_iff.1 hj).1
  have hq : xs.getD i bdZ = x := by rw [List.getD_eq_getElem?_getD, hx]; rfl
  obtain ⟨e, rfl⟩ := p
  rw [w.plus_cell e (p := ⟨g, _, none⟩) hg, Nat.add_assoc, hc i j hi hj']
  unfold rowFB
  rw [hq, List.getD_eq_getElem?_getD, hj]
  rfl
theorem sameB_any (w : World) (A B : Option Addr) (c d : Nat) (xs : List BdR) (hx0 : RowsAt w A 11 xs.length (rowFB xs)) (hy0 : RowsAt w B 11 xs.length (rowFB xs)) (hlen : xs.length ≤ 1048577) :
    Calls Tryz.prog 49 #[.slice A xs.length c, .slice B xs.length d] w fun e w' => e = .returned (.bool true) ∧ w.Plus w' := by
  have hx := Lib.hid (fun wz (p : w.Plus wz) => hx0.plus p)
  have hy := Lib.hid (fun wz (p : w.Plus wz) => hy0.plus p)
  clear hx0 hy0
  obtain ⟨n, hn⟩ : ∃ n, n = xs.length := ⟨_, rfl⟩
  rw [← hn] at hlen ⊢
  replace hn := Lib.hid hn
  have hni : (n : Int) ≤ 1048577 := by omega
  go_enter Tryz.func49, Tryz.ntmps49
  go_wp2_with fail
  go_loopw [5] (fun v wr => ∃ i : Nat, i ≤ n ∧ v = nI i ∧ w.Plus wr) (fun v _ => n - (intOf v).toNat)
  case atStart => exact ⟨0, by omega, rfl, Plus.refl _⟩
  case round =>
    obtain ⟨i, hi, rfl, hp⟩ := hrel
    by_cases hlt : i < n
    · have hlti : (i : Int) < n := by omega
      obtain ⟨x, hxi⟩ : ∃ x, xs[i]? = some x := ⟨_, List.getElem?_eq_getElem (by rw [← hn.out]; exact hlt)⟩
      obtain ⟨g, o, rfl, hg, hX⟩ := loadRowB (hx.out _ hp) i x hxi (by rw [← hn.out]; exact hlt)
      obtain ⟨g2, o2, rfl, hg2, hY⟩ := loadRowB (hy.out _ hp) i x hxi (by rw [← hn.out]; exact hlt)
      replace hp := Lib.hid hp
      replace hX := Lib.hid hX
      replace hY := Lib.hid hY
      replace hx := Lib.hid hx
      replace hy := Lib.hid hy
      clear hxi hg hg2
      go_upto_region 6 with fail
      refine wp_region_grow (by kernel_rfl) (by kernel_rfl) ?_
      repeat (first
        | (go_big_quiet_want; refine quiet_load_R 75 _ rfl (fun w hw => hX.out w hw) rfl ?_; go_big_quiet_on; simp only [Act.put, List.setIfInBounds_toArray, List.set_cons_succ, List.set_cons_zero])
        | (go_big_quiet_want; refine quiet_load_R 75 _ rfl (fun w hw => hY.out w hw) rfl ?_; go_big_quiet_on; simp only [Act.put, List.setIfInBounds_toArray, List.set_cons_succ, List.set_cons_zero])
        | go_big_quiet_step (fail))
      refine wpQuiet_nil ?_
      intro ex
      go_wp2_with fail
      go_roundw
      case rel => exact ⟨i + 1, hlt, by go_num, Plus.plus hp.out ex⟩
      case measure => simp [intOf]; omega
    · obtain rfl : i = n := by omega
      have hkk : ¬ (i : Int) < i := by omega
      replace hp := Lib.hid hp
      go_wp2_with fail
      go_ret
      exact ⟨rfl, hp.out⟩
theorem loadRowC {w : World} {A : Option Addr} {xs : List CmdR} (h : RowsAt w A 16 xs.length (rowFC xs)) (i : Nat) (x : CmdR) (hx : xs[i]? = some x) (hi : i < xs.length) :
    ∃ g o, A = some ⟨g, o, none⟩ ∧ g < w.heap.size ∧ ∀ w', w.Plus w' → (loadVar 77 ⟨g, o + i * 16, none⟩).run Tryz.prog w' = .ok x.v w' := by
  obtain ⟨g, o, hA, hg, hc⟩ := h (by omega)
  refine ⟨g, o, hA, hg, fun w' p => run_loadVar_cells x.cs (fun j v hj => ?_) Tryz.underlying77 rfl (by kernel_rfl)⟩
  have hj' := (List.getElem?_eq_some_iff.1 hj).1
  have hq : xs.getD i cmZ = x := by rw [List.getD_eq_getElem?_getD, hx]; rfl
  obtain ⟨e, rfl⟩ := p
  rw [w.plus_cell e (p := ⟨g, _, none⟩) hg, Nat.add_assoc, hc i j hi hj']
  unfold rowFC
  rw [hq, List.getD_eq_getElem?_getD, hj]
  rfl
theorem sameC_any (w : World) (A B : Option Addr) (c d : Nat) (xs : List CmdR) (hx0 : RowsAt w A 16 xs.length (rowFC xs)) (hy0 : RowsAt w B 16 xs.length (rowFC xs)) (hlen : xs.length ≤ 1048577) :
    Calls Tryz.prog 48 #[.slice A xs.length c, .slice B xs.length d] w fun e w' => e = .returned (.bool true) ∧ w.Plus w' := by
  have hx := Lib.hid (fun wz (p : w.Plus wz) => hx0.plus p)
  have hy := Lib.hid (fun wz (p : w.Plus wz) => hy0.plus p)
  clear hx0 hy0
  obtain ⟨n, hn⟩ : ∃ n, n = xs.length := ⟨_, rfl⟩
  rw [← hn] at hlen ⊢
  replace hn := Lib.hid hn
  have hni : (n : Int) ≤ 1048577 := by omega
  go_enter Tryz.func48, Tryz.ntmps48
  go_wp2_with fail
  go_loopw [5] (fun v wr => ∃ i : Nat, i ≤ n ∧ v = nI i ∧ w.Plus wr) (fun v _ => n - (intOf v).toNat)
  case atStart => exact ⟨0, by omega, rfl, Plus.refl _⟩
  case round =>
    obtain ⟨i, hi, rfl, hp⟩ := hrel
    by_cases hlt : i < n
    · have hlti : (i : Int) < n := by omega
      obtain ⟨x, hxi⟩ : ∃ x, xs[i]? = some x := ⟨_, List.getElem?_eq_getElem (by rw [← hn.out]; exact hlt)⟩
      obtain ⟨g, o, rfl, hg, hX⟩ := loadRowC (hx.out _ hp) i x hxi (by rw [← hn.out]; exact hlt)
      obtain ⟨g2, o2, rfl, hg2, hY⟩ := loadRowC (hy.out _ hp) i x hxi (by rw [← hn.out]; exact hlt)
      replace hp := Lib.hid hp
      replace hX := Lib.hid hX
      replace hY := Lib.hid hY
      replace hx := Lib.hid hx
      replace hy := Lib.hid hy
      clear hxi hg hg2
      go_upto_region 6 with fail
      refine wp_region_grow (by kernel_rfl) (by kernel_rfl) ?_
      repeat (first
        | (go_big_quiet_want; refine quiet_load_R 77 _ rfl (fun w hw => hX.out w hw) rfl ?_; go_big_quiet_on; simp only [Act.put, List.setIfInBounds_toArray, List.set_cons_succ, List.set_cons_zero])
        | (go_big_quiet_want; refine quiet_load_R 77 _ rfl (fun w hw => hY.out w hw) rfl ?_; go_big_quiet_on; simp only [Act.put, List.setIfInBounds_toArray, List.set_cons_succ, List.set_cons_zero])
        | go_big_quiet_step (fail))
      refine wpQuiet_nil ?_
      intro ex
      go_wp2_with fail
      go_roundw
      case rel => exact ⟨i + 1, hlt, by go_num, Plus.plus hp.out ex⟩
      case measure => simp [intOf]; omega
    · obtain rfl : i = n := by omega
      have hkk : ¬ (i : Int) < i := by omega
      replace hp := Lib.hid hp
      go_wp2_with fail
      go_ret
      exact ⟨rfl, hp.out⟩
end Go.Proofs.YtpdlgflbcgemnaaGreatDoor
