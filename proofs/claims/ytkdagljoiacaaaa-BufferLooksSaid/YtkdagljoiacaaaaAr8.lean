/- arch: Get, Row, New: walk. -/
import Derived.Test.YtkdagljoiacaaaaAr7
set_option linter.unusedSimpArgs false
set_option linter.unusedVariables false
namespace Go.Proofs.Ytkdagljoiacaaaa
open Go.RowKit
/-- an entity of a name, and whether there is one -/
def getS (T : Tabs) (a : IdR) : BdR := match findT T a with
  | none => bd0
  | some (m, i) => (T m).getD i bd0
theorem find_get {T : Tabs} {a : IdR} {m i : Nat} (h : findT T a = some (m, i)) : m < 32 ∧ (T m)[i]? = some (getS T a) ∧ (getS T a).id = a := by
  obtain ⟨h1, b, h2, h3⟩ := findT_some h
  have : getS T a = b := by
    unfold getS
    rw [h]
    simp only
    rw [List.getD_eq_getElem?_getD, h2]
    rfl
  rw [this]
  exact ⟨h1, h2, h3⟩
set_option maxRecDepth 100000 in
set_option maxHeartbeats 4000000 in
theorem get_store {W wx : World} {S : Nat} {T : Tabs} {l : List Asn} (h : Own W wx (storeA S T :: l)) (hg : GoodT T) (a : IdR) (ha : IdW a) (ht : total T ≤ 100000) :
    Calls Try.prog 23 #[chP S, a.v] wx fun e w' => e = .returned (.tuple #[(getS T a).v, .bool (findT T a).isSome]) ∧ wx.Plus w' := by
  obtain ⟨is, ii, ig⟩ := a
  have hz : SizeN (wx.alloc (.cells #[nI is, nI ii, nI ig] 38)) (wx.heap.size + 1) := inferInstance
  have hP0 := Plus.alloc (Plus.alloc (Plus.refl wx) (.cells #[nI is, nI ii, nI ig] 38)) (.cells #[nI 0, nI 0, nI 0, nI 0, nI 0, nI 0, nI 0, nI 0, nI 0, nI 0, nI 0] 40)
  have kH := Lib.hid (fun wz (p : wx.Plus wz) => (by
    obtain ⟨e, rfl⟩ := p
    exact has_store (h.plus e) ⟨is, ii, ig⟩ ha : Calls Try.prog 46 #[chP S, IdR.v ⟨is, ii, ig⟩] wz fun e w' => e = .returned (.bool (findT T ⟨is, ii, ig⟩).isSome) ∧ wz.Plus w'))
  cases hf : findT T ⟨is, ii, ig⟩ with
  | none =>
    have hgs : getS T ⟨is, ii, ig⟩ = bd0 := by unfold getS; rw [hf]
    rw [hf] at kH
    rw [hgs]
    simp only [Option.isSome_none] at kH ⊢
    clear hf hgs
    replace h := Lib.hid h
    go_enter Try.func23, Try.ntmps23
    go_wp2_with (go_at_call 46; (with_reducible refine (kH.out _ (by (repeat (first | exact Plus.refl _ | apply Plus.plus | apply Plus.alloc | apply Plus.drew)))).mono ?_); rintro e w' ⟨rfl, ey, rfl⟩)
    exact bodyPost_ret (v := .tuple #[bd0.v, .bool false]) (by simp [results, Try.results23, go_sem]) rfl ⟨rfl, by (repeat (first | exact Plus.refl _ | apply Plus.plus | apply Plus.alloc | apply Plus.drew))⟩
  | some p =>
    obtain ⟨m, i⟩ := p
    obtain ⟨hm, hb, hid⟩ := find_get hf
    generalize getS T ⟨is, ii, ig⟩ = b at *
    rw [hf] at kH
    simp only [Option.isSome_some] at kH ⊢
    obtain ⟨M, c, hTab, O⟩ := store_open h
    obtain ⟨lS, sM, sc, sf, _⟩ := store_at O
    have kA := Lib.hid (fun wz (p : wx.Plus wz) => (by
      obtain ⟨e, rfl⟩ := p
      exact at_store (h.plus e) hg m i b hm hb ht : Calls Try.prog 29 #[chP S, plV (m, i)] wz fun e w' => e = .returned b.v ∧ wz.Plus w'))
    have kL := Lib.hid (fun wz (p : wx.Plus wz) => (by
      obtain ⟨e, rfl⟩ := p
      have := look_at (O.plus e) ⟨is, ii, ig⟩ ha false
      rw [hf] at this
      exact this : (Instr.lookup 65 (.map (some M)) (.agg #[nI is, nI ii, nI ig]) false).run Try.prog wz = .ok (plV (m, i)) wz))
    clear hf hb hid sc sf hTab
    replace h := Lib.hid h
    replace O := Lib.hid O
    go_enter Try.func23, Try.ntmps23
    go_wp2_with (go_at_call 46; (with_reducible refine (kH.out _ (by (repeat (first | exact Plus.refl _ | apply Plus.plus | apply Plus.alloc | apply Plus.drew)))).mono ?_); rintro e w' ⟨rfl, ey, rfl⟩)
    have kL2 := fun e => kL.out ((((wx.alloc (.cells #[nI is, nI ii, nI ig] 38)).alloc (.cells #[nI 0, nI 0, nI 0, nI 0, nI 0, nI 0, nI 0, nI 0, nI 0, nI 0, nI 0] 40)).plus ey).plus e) (by (repeat (first | exact Plus.refl _ | apply Plus.plus | apply Plus.alloc | apply Plus.drew)))
    refine wp_region_grow_tail 8 (by kernel_rfl) (by kernel_rfl) ?_
    simp only [List.take_succ_cons, List.take_zero, List.drop_succ_cons, List.drop_zero]
    repeat (go_big_quiet_step ((go_at_call 29; exact Calls.plus_of (kA.out _ (by (repeat (first | exact Plus.refl _ | apply Plus.plus | apply Plus.alloc | apply Plus.drew)))))))
    refine wpQuiet_nil ?_
    intro ex
    go_wp2_with fail
    exact bodyPost_ret (v := .tuple #[b.v, .bool true]) (by simp [results, Try.results23, go_sem]) rfl ⟨rfl, by (repeat (first | exact Plus.refl _ | apply Plus.plus | apply Plus.alloc | apply Plus.drew))⟩
theorem field_row (a b : Value) (w : World) : (Instr.field 77 (.agg #[a, b]) 1).run Try.prog w = .ok b w := by kernel_rfl
set_option maxRecDepth 100000 in
set_option maxHeartbeats 4000000 in
theorem row_store {W wx : World} {S : Nat} {T : Tabs} {l : List Asn} (h : Own W wx (storeA S T :: l)) (a : IdR) (ha : IdW a) :
    Calls Try.prog 45 #[chP S, a.v] wx fun e w' => e = .returned (.tuple #[nI (((findT T a).elim 0 Prod.snd : Nat)), .bool (findT T a).isSome]) ∧ wx.Plus w' := by
  obtain ⟨is, ii, ig⟩ := a
  have kH := Lib.hid (fun wz (p : wx.Plus wz) => (by
    obtain ⟨e, rfl⟩ := p
    exact has_store (h.plus e) ⟨is, ii, ig⟩ ha : Calls Try.prog 46 #[chP S, IdR.v ⟨is, ii, ig⟩] wz fun e w' => e = .returned (.bool (findT T ⟨is, ii, ig⟩).isSome) ∧ wz.Plus w'))
  cases hf : findT T ⟨is, ii, ig⟩ with
  | none =>
    rw [hf] at kH
    simp only [Option.isSome_none, Option.elim] at kH ⊢
    clear hf
    replace h := Lib.hid h
    go_enter Try.func45, Try.ntmps45
    go_wp2_with (go_at_call 46; (with_reducible refine (kH.out _ (by (repeat (first | exact Plus.refl _ | apply Plus.plus | apply Plus.alloc | apply Plus.drew)))).mono ?_); rintro e w' ⟨rfl, ey, rfl⟩)
    go_ret2
    exact ⟨rfl, by (repeat (first | exact Plus.refl _ | apply Plus.plus | apply Plus.alloc | apply Plus.drew))⟩
  | some p =>
    obtain ⟨m, i⟩ := p
    rw [hf] at kH
    simp only [Option.isSome_some, Option.elim] at kH ⊢
    obtain ⟨M, c, hTab, O⟩ := store_open h
    obtain ⟨lS, sM, sc, sf, _⟩ := store_at O
    have kL := Lib.hid (fun wz (p : wx.Plus wz) => (by
      obtain ⟨e, rfl⟩ := p
      have := look_at (O.plus e) ⟨is, ii, ig⟩ ha false
      rw [hf] at this
      exact this : (Instr.lookup 65 (.map (some M)) (.agg #[nI is, nI ii, nI ig]) false).run Try.prog wz = .ok (.agg #[nI (m : Int), nI (i : Int)]) wz))
    clear hf sc sf hTab
    replace h := Lib.hid h
    replace O := Lib.hid O
    go_enter Try.func45, Try.ntmps45
    go_wp2_with (go_at_call 46; (with_reducible refine (kH.out _ (by (repeat (first | exact Plus.refl _ | apply Plus.plus | apply Plus.alloc | apply Plus.drew)))).mono ?_); rintro e w' ⟨rfl, ey, rfl⟩)
    have kL2 := fun e => kL.out ((wx.alloc (.cells #[nI is, nI ii, nI ig] 38)).plus e) (by (repeat (first | exact Plus.refl _ | apply Plus.plus | apply Plus.alloc | apply Plus.drew)))
    have hfr := field_row (nI (m : Int)) (nI (i : Int))
    go_region
    go_wp2_with fail
    go_ret2
    exact ⟨rfl, by (repeat (first | exact Plus.refl _ | apply Plus.plus | apply Plus.alloc | apply Plus.drew))⟩
/-- columns without rows -/
def col0 : Nat → Col := fun _ => ⟨(none, 0), 0, []⟩
theorem zeroStore (w : World) : (zeroValue 71).run Try.prog w = .ok (.agg (cellsL col0 256 (.map none)).toArray) w := by kernel_rfl
theorem cells0_set (v : Value) : (cellsL col0 256 (.map none)).toArray.setIfInBounds 256 v = (cellsL col0 256 v).toArray := by
  unfold cellsL
  rw [List.setIfInBounds_toArray, List.set_append_right _ _ (by simp)]
  simp
theorem cells0_size : (cellsL col0 256 (.map none)).toArray.size = 257 := by simp [cellsL_length]
theorem cols0 {W w : World} {l : List Asn} (h : Own W w l) : ∀ N, Own W w (bothA (colsL col0 N) :: l) := by
  intro N
  refine Own.join ?_
  unfold colsL
  generalize List.range N = L
  induction L with
  | nil => exact h
  | cons j r ih => exact Own.add ih (Chg.refl _ _) (Q := colA j (col0 j)) (A := fun _ => False) ⟨fun k => by simp [Value.ownBlock, Col.v, col0], Sl.nil _ _⟩ (fun _ h => h.elim)
theorem tab0 : Tab (fun _ => []) col0 := fun j hj => ⟨rfl, rfl⟩
theorem total0 : total (fun _ => []) = 0 := by decide
theorem find0 : findT (fun _ => []) = fun _ => none := by
  funext a
  rw [findT_none]
  intro m hm b hb
  cases hb
set_option maxRecDepth 1000000 in
set_option maxHeartbeats 8000000 in
theorem new_store {W wx : World} {l : List Asn} (O : Own W wx l) : Calls Try.prog 11 #[] wx fun e w' => ∃ S, e = .returned (chP S) ∧ Own W w' (storeA S (fun _ => []) :: l) := by
  have hmm := @run_makeMap Try.prog
  have hz := zeroStore
  have h1 := cells0_set
  have h2 := cells0_size
  go_enter Try.func11, Try.ntmps11
  go_wp2_with fail
  have O2 := Own.newCells (Own.newMap O IdR.v plV IdW) (cellsL col0 256 (.map (some wx.heap.size))) 71
  have e1 : (wx.alloc (.map #[] 0)).heap.size = wx.heap.size + 1 := World.size_alloc _ _
  rw [e1] at O2
  have O3 := cols0 O2 256
  rw [← total0, ← find0] at O3
  exact bodyPost_ret (v := chP (wx.heap.size + 1)) (by simp [results, Try.results11, go_sem]) rfl ⟨wx.heap.size + 1, rfl, store_mk O3 tab0⟩
end Go.Proofs.Ytkdagljoiacaaaa
