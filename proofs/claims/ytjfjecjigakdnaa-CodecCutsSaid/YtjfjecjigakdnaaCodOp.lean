/- codec: lists that are read as data, opened. -/
import Derived.Test.YtjfjecjigakdnaaCodB
import Derived.Test.YtjfjecjigakdnaaGd
set_option linter.unusedSimpArgs false
set_option linter.unusedVariables false
namespace Go.Proofs.Ytjfjecjigakdnaa
open Go.RowKit
theorem openI {w : World} {xs : List idTy.El} {cs : List Value} (h : Holds w (.slice 24 idTy) xs cs) :
    ∃ (A : Option Addr) (c : Nat) (ds : List IdR), cs = [.slice A ds.length c] ∧ ds.length ≤ 9223372036854775807 ∧ RowsAt w A 3 ds.length (rowFI ds) ∧ ∀ d ∈ ds, IdI d := by
  obtain ⟨A, c, hc, hl, _, hmx, hwf, hr⟩ := h.rows rfl
  refine ⟨A, c, xs.map toI, by rw [hc, List.length_map], by rw [List.length_map]; unfold maxLen at hmx; omega, ?_, fun d hd => ?_⟩
  · rw [List.length_map]
    refine hr _ fun i j x hx hj => ?_
    have e : (xs.map toI).getD i idZ = toI x := by rw [List.getD_eq_getElem?_getD, List.getElem?_map, hx]; rfl
    unfold rowFI
    rw [e]
    have hn : (toI x).cs.length = 3 := rfl
    show (toI x).cs[j]? = _
    rw [List.getD_eq_getElem?_getD, List.getElem?_eq_getElem (by rw [hn]; exact hj)]
    rfl
  · obtain ⟨x, hx, rfl⟩ := List.mem_map.1 hd
    exact wf_toI (hwf x hx)
theorem openB {w : World} {xs : List bdTy.El} {cs : List Value} (h : Holds w (.slice 88 bdTy) xs cs) :
    ∃ (A : Option Addr) (c : Nat) (ds : List BdR), cs = [.slice A ds.length c] ∧ ds.length ≤ 9223372036854775807 ∧ RowsAt w A 11 ds.length (rowFB ds) ∧ ∀ d ∈ ds, BdI d := by
  obtain ⟨A, c, hc, hl, _, hmx, hwf, hr⟩ := h.rows rfl
  refine ⟨A, c, xs.map toB, by rw [hc, List.length_map], by rw [List.length_map]; unfold maxLen at hmx; omega, ?_, fun d hd => ?_⟩
  · rw [List.length_map]
    refine hr _ fun i j x hx hj => ?_
    have e : (xs.map toB).getD i bdZ = toB x := by rw [List.getD_eq_getElem?_getD, List.getElem?_map, hx]; rfl
    unfold rowFB
    rw [e]
    have hn : (toB x).cs.length = 11 := rfl
    show (toB x).cs[j]? = _
    rw [List.getD_eq_getElem?_getD, List.getElem?_eq_getElem (by rw [hn]; exact hj)]
    rfl
  · obtain ⟨x, hx, rfl⟩ := List.mem_map.1 hd
    exact wf_toB (hwf x hx)
theorem openC {w : World} {xs : List cmTy.El} {cs : List Value} (h : Holds w (.slice 128 cmTy) xs cs) :
    ∃ (A : Option Addr) (c : Nat) (ds : List CmdR), cs = [.slice A ds.length c] ∧ ds.length ≤ 9223372036854775807 ∧ RowsAt w A 16 ds.length (rowFC ds) ∧ ∀ d ∈ ds, CmI d := by
  obtain ⟨A, c, hc, hl, _, hmx, hwf, hr⟩ := h.rows rfl
  refine ⟨A, c, xs.map toC, by rw [hc, List.length_map], by rw [List.length_map]; unfold maxLen at hmx; omega, ?_, fun d hd => ?_⟩
  · rw [List.length_map]
    refine hr _ fun i j x hx hj => ?_
    have e : (xs.map toC).getD i cmZ = toC x := by rw [List.getD_eq_getElem?_getD, List.getElem?_map, hx]; rfl
    unfold rowFC
    rw [e]
    have hn : (toC x).cs.length = 16 := rfl
    show (toC x).cs[j]? = _
    rw [List.getD_eq_getElem?_getD, List.getElem?_eq_getElem (by rw [hn]; exact hj)]
    rfl
  · obtain ⟨x, hx, rfl⟩ := List.mem_map.1 hd
    exact wf_toC (hwf x hx)
end Go.Proofs.Ytjfjecjigakdnaa
