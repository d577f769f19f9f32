/- arch: a store's tables, and how they lie in columns: plain laws. -/
import Derived.Test.YtkdagljoiacaaaaArP
import Derived.Test.YtkdagljoiacaaaaMap
set_option linter.unusedSimpArgs false
set_option linter.unusedVariables false
namespace Go.Proofs.Ytkdagljoiacaaaa
open Go.RowKit
abbrev chP (n : Nat) : Value := .pointer (some ⟨n, 0, none⟩)
/-- f, but for x at j -/
def upd {α : Type} (f : Nat → α) (j : Nat) (x : α) : Nat → α := fun i => if i = j then x else f i
theorem upd_at {α : Type} (f : Nat → α) (j : Nat) (x : α) : upd f j x j = x := if_pos rfl
theorem upd_ne {α : Type} (f : Nat → α) {j i : Nat} (x : α) (h : i ≠ j) : upd f j x i = f i := if_neg h
theorem map_range_upd {α β : Type} (f : Nat → α) (g : Nat → α → β) (N j : Nat) (x : α) (hj : j < N) : (List.range N).map (fun i => g i (upd f j x i)) = ((List.range N).map (fun i => g i (f i))).set j (g j x) := by
  apply List.ext_getElem?
  intro i
  rw [List.getElem?_set, List.getElem?_map, List.length_map, List.length_range]
  by_cases e : j = i
  · subst e
    rw [if_pos rfl, if_pos hj, List.getElem?_range hj, Option.map_some, upd_at]
  · rw [if_neg e, List.getElem?_map]
    by_cases hi : i < N
    · rw [List.getElem?_range hi, Option.map_some, Option.map_some, upd_ne _ _ (fun k => e k.symm)]
    · rw [List.getElem?_eq_none (by simpa using hi)]; rfl
/-- a slice's address and capacity -/
abbrev Ad := Option Addr × Nat
/-- a column: a slice that is held -/
structure Col where
  ad : Ad
  n : Nat
  cs : List Value
abbrev Col.v (c : Col) : Value := .slice c.ad.1 c.n c.ad.2
def szc (j : Nat) : Nat := if j % 8 = 0 then 3 else 1
def colA (j : Nat) (c : Col) : Asn := slA (szc j) c.v c.n c.cs
def colsL (c : Nat → Col) (N : Nat) : List Asn := (List.range N).map (fun j => colA j (c j))
def cellsL (c : Nat → Col) (N : Nat) (m : Value) : List Value := (List.range N).map (fun j => (c j).v) ++ [m]
theorem colsL_length (c : Nat → Col) (N : Nat) : (colsL c N).length = N := by simp [colsL]
theorem colsL_get (c : Nat → Col) (N j : Nat) (h : j < N) : (colsL c N)[j]? = some (colA j (c j)) := by simp [colsL, h]
theorem colsL_upd (c : Nat → Col) (N j : Nat) (x : Col) (h : j < N) : colsL (upd c j x) N = (colsL c N).set j (colA j x) := map_range_upd c colA N j x h
theorem cellsL_get (c : Nat → Col) (N j : Nat) (m : Value) (h : j < N) : (cellsL c N m)[j]? = some (c j).v := by
  unfold cellsL
  rw [List.getElem?_append_left (by simpa using h)]
  simp [h]
theorem cellsL_last (c : Nat → Col) (N : Nat) (m : Value) : (cellsL c N m)[N]? = some m := by
  unfold cellsL
  rw [List.getElem?_append_right (by simp)]
  simp
theorem cellsL_length (c : Nat → Col) (N : Nat) (m : Value) : (cellsL c N m).length = N + 1 := by simp [cellsL]
theorem cellsL_upd (c : Nat → Col) (N j : Nat) (m : Value) (x : Col) (h : j < N) : cellsL (upd c j x) N m = (cellsL c N m).set j x.v := by
  unfold cellsL
  rw [map_range_upd c (fun _ y => y.v) N j x h, List.set_append_left _ _ (by simpa using h)]
section
variable {W w : World} {c : Nat → Col} {N j : Nat} {l : List Asn}
theorem cols_pull (h : Own W w (bothA (colsL c N) :: l)) (hj : j < N) : Own W w (colA j (c j) :: bothA ((colsL c N).eraseIdx j) :: l) := by
  have h1 := h.both.pull j (by rw [List.getElem?_append_left (by rw [colsL_length]; exact hj)]; exact colsL_get c N j hj)
  rw [List.eraseIdx_append_of_lt_length (by rw [colsL_length]; exact hj)] at h1
  have h2 : Own W w ((colsL c N).eraseIdx j ++ (colA j (c j) :: l)) := h1.perm List.perm_middle.symm
  exact h2.join.rot1
theorem cols_push {x : Col} (h : Own W w (colA j x :: bothA ((colsL c N).eraseIdx j) :: l)) (hj : j < N) : Own W w (bothA (colsL (upd c j x) N) :: l) := by
  have h1 : Own W w (colA j x :: ((colsL c N).eraseIdx j ++ l)) := h.rot1.both.perm List.perm_middle
  rw [← List.eraseIdx_append_of_lt_length (by rw [colsL_length]; exact hj)] at h1
  have h2 := Own.push (colsL c N ++ l) j (by rw [List.length_append, colsL_length]; omega) h1
  rw [List.set_append_left _ _ (by rw [colsL_length]; exact hj), ← colsL_upd c N j x hj] at h2
  exact h2.join
end
theorem Own.fact {W wx : World} {l : List Asn} {p : Prop} (i : Nat) (h : Own W wx l) (hi : l[i]? = some (factA p)) : p := by
  obtain ⟨A, hA, _⟩ := h.at hi
  exact hA.2
end Go.Proofs.Ytkdagljoiacaaaa
