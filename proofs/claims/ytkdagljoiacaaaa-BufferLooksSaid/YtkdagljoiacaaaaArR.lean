/- arch: the reference's store in memory, as an assertion: plain laws. -/
import Derived.Test.YtkdagljoiacaaaaArT
import Derived.Deep.CutBlock
import Derived.Deep.DeepCutAuto
set_option linter.unusedSimpArgs false
set_option linter.unusedVariables false
namespace Go.Proofs.Ytkdagljoiacaaaa
open Go.RowKit
theorem Own.atP {W wx : World} {l : List Asn} (h : Own W wx l) : ∀ wz, wx.Plus wz → Own W wz l := by
  rintro wz ⟨e, rfl⟩
  exact h.plus e
def bdsCs (l : List BdR) : List Value := l.flatMap BdR.cs
/-- a table of the reference: a slice of entities -/
def rcolA (c : Ad × List BdR) : Asn := slA 11 (.slice c.1.1 c.2.length c.1.2) c.2.length (bdsCs c.2)
def rcolsL (c : Nat → Ad) (T : Tabs) : List Asn := (List.range 32).map fun j => rcolA (c j, T j)
def rcellsL (c : Nat → Ad) (T : Tabs) : List Value := (List.range 32).map fun j => .slice (c j).1 (T j).length (c j).2
theorem rcolsL_length (c : Nat → Ad) (T : Tabs) : (rcolsL c T).length = 32 := by simp [rcolsL]
theorem rcellsL_length (c : Nat → Ad) (T : Tabs) : (rcellsL c T).length = 32 := by simp [rcellsL]
theorem rcolsL_get (c : Nat → Ad) (T : Tabs) (j : Nat) (h : j < 32) : (rcolsL c T)[j]? = some (rcolA (c j, T j)) := by simp [rcolsL, h]
theorem rcellsL_get (c : Nat → Ad) (T : Tabs) (j : Nat) (h : j < 32) : (rcellsL c T)[j]? = some (.slice (c j).1 (T j).length (c j).2) := by simp [rcellsL, h]
theorem rcolsL_upd (c : Nat → Ad) (T : Tabs) (j : Nat) (x : Ad) (l : List BdR) (h : j < 32) : rcolsL (upd c j x) (upd T j l) = (rcolsL c T).set j (rcolA (x, l)) := by
  unfold rcolsL
  apply List.ext_getElem?
  intro i
  rw [List.getElem?_set, List.getElem?_map, List.length_map, List.length_range]
  by_cases e : j = i
  · subst e
    rw [if_pos rfl, if_pos h, List.getElem?_range h, Option.map_some, upd_at, upd_at]
  · rw [if_neg e, List.getElem?_map]
    by_cases hi : i < 32
    · rw [List.getElem?_range hi, Option.map_some, Option.map_some, upd_ne _ _ (fun k => e k.symm), upd_ne _ _ (fun k => e k.symm)]
    · rw [List.getElem?_eq_none (by simpa using hi)]; rfl
theorem rcellsL_upd (c : Nat → Ad) (T : Tabs) (j : Nat) (x : Ad) (l : List BdR) (h : j < 32) : rcellsL (upd c j x) (upd T j l) = (rcellsL c T).set j (.slice x.1 l.length x.2) := by
  unfold rcellsL
  apply List.ext_getElem?
  intro i
  rw [List.getElem?_set, List.getElem?_map, List.length_map, List.length_range]
  by_cases e : j = i
  · subst e
    rw [if_pos rfl, if_pos h, List.getElem?_range h, Option.map_some, upd_at, upd_at]
  · rw [if_neg e, List.getElem?_map]
    by_cases hi : i < 32
    · rw [List.getElem?_range hi, Option.map_some, Option.map_some, upd_ne _ _ (fun k => e k.symm), upd_ne _ _ (fun k => e k.symm)]
    · rw [List.getElem?_eq_none (by simpa using hi)]; rfl
def refL (R : Nat) (c : Nat → Ad) (T : Tabs) (l : List Asn) : List Asn := bothA (rcolsL c T) :: cellsA R (rcellsL c T) :: l
def refF (R : Nat) (T : Tabs) (c : Nat → Ad) : List Asn := refL R c T []
/-- the reference's store -/
def refA (R : Nat) (T : Tabs) : Asn := exA (refF R T)
section
variable {W w : World} {R : Nat} {c : Nat → Ad} {T : Tabs} {j : Nat} {l : List Asn}
theorem ref_open (h : Own W w (refA R T :: l)) : ∃ c, Own W w (refL R c T l) := h.ex
theorem ref_shut (h : Own W w (refL R c T l)) : Own W w (refA R T :: l) := Own.mk (refF R T) c h
theorem ref_pull (h : Own W w (refL R c T l)) (hj : j < 32) : Own W w (slA 11 (.slice (c j).1 (T j).length (c j).2) (T j).length (bdsCs (T j)) :: bothA ((rcolsL c T).eraseIdx j) :: cellsA R (rcellsL c T) :: l) := by
  have h1 := h.both.pull j (by rw [List.getElem?_append_left (by rw [rcolsL_length]; exact hj)]; exact rcolsL_get c T j hj)
  rw [List.eraseIdx_append_of_lt_length (by rw [rcolsL_length]; exact hj)] at h1
  have h2 : Own W w ((rcolsL c T).eraseIdx j ++ (rcolA (c j, T j) :: cellsA R (rcellsL c T) :: l)) := h1.perm List.perm_middle.symm
  exact h2.join.rot1
theorem ref_push {A : Option Addr} {cp n : Nat} {rows : List BdR} (h : Own W w (slA 11 (.slice A n cp) n (bdsCs rows) :: bothA ((rcolsL c T).eraseIdx j) :: cellsA R (rcellsL c T) :: l)) (hn : n = rows.length) (hj : j < 32) :
    Own W (w.setCell ⟨R, j, none⟩ (.slice A n cp)) (refL R (upd c j (A, cp)) (upd T j rows) l) := by
  subst hn
  have h1 : Own W w (rcolA ((A, cp), rows) :: ((rcolsL c T).eraseIdx j ++ (cellsA R (rcellsL c T) :: l))) := h.rot1.both.perm List.perm_middle
  rw [← List.eraseIdx_append_of_lt_length (by rw [rcolsL_length]; exact hj)] at h1
  have h2 := Own.push (rcolsL c T ++ (cellsA R (rcellsL c T) :: l)) j (by rw [List.length_append, rcolsL_length]; omega) h1
  rw [List.set_append_left _ _ (by rw [rcolsL_length]; exact hj), ← rcolsL_upd c T j (A, cp) rows hj] at h2
  have h3 := h2.join.setCellAt 1 j (.slice A rows.length cp) rfl (by rw [rcellsL_length]; exact hj)
  unfold refL
  rw [rcellsL_upd c T j (A, cp) rows hj]
  exact h3
theorem ref_at (O : Own W w (refL R c T l)) : InW R w ∧ (∀ j, j < 32 → w.cell? ⟨R, j, none⟩ = some (.slice (c j).1 (T j).length (c j).2)) ∧ ∀ j, w.frozen? ⟨R, j, none⟩ = false := by
  obtain ⟨lR, q, f⟩ := O.cells 1 rfl
  exact ⟨⟨lR⟩, fun j hj => (q j (by rw [rcellsL_length]; exact hj)).trans (rcellsL_get c T j hj), f⟩
end
theorem bdsCs_length (l : List BdR) : (bdsCs l).length = l.length * 11 := by
  unfold bdsCs
  induction l with
  | nil => rfl
  | cons b r ih =>
    have hl : b.cs.length = 11 := rfl
    rw [List.flatMap_cons, List.length_append, ih, hl, List.length_cons]
    omega
theorem bdsCs_get (l : List BdR) (i : Nat) (b : BdR) (h : l[i]? = some b) (j : Nat) (hj : j < 11) : (bdsCs l)[i * 11 + j]? = b.cs[j]? := by
  unfold bdsCs
  induction l generalizing i with
  | nil => simp at h
  | cons r t ih =>
    have hr : r.cs.length = 11 := rfl
    rw [List.flatMap_cons]
    cases i with
    | zero =>
      simp at h
      subst h
      rw [List.getElem?_append_left (by rw [hr]; omega)]
      simp
    | succ i =>
      rw [List.getElem?_append_right (by rw [hr]; omega), hr, show (i + 1) * 11 + j - 11 = i * 11 + j by omega]
      exact ih i (by simpa using h)
theorem bdsCs_append (l m : List BdR) : bdsCs (l ++ m) = bdsCs l ++ bdsCs m := by unfold bdsCs; rw [List.flatMap_append]
theorem bdsCs_take (n : Nat) (l : List BdR) : (bdsCs l).take (n * 11) = bdsCs (l.take n) := by
  unfold bdsCs
  induction l generalizing n with
  | nil => simp
  | cons b r ih =>
    cases n with
    | zero => simp
    | succ n =>
      have hl : b.cs.length = 11 := rfl
      rw [List.take_succ_cons, List.flatMap_cons, List.flatMap_cons, ← ih n, List.take_append, List.take_of_length_le (by rw [hl]; omega), hl, show (n + 1) * 11 - 11 = n * 11 by omega]
theorem eqId3 (a b c d e f : Int) (w : World) : (binOp .eql 38 (.agg #[nI a, nI b, nI c]) (.agg #[nI d, nI e, nI f])).run Try.prog w = .ok (.bool (decide ((⟨a, b, c⟩ : IdR) = ⟨d, e, f⟩))) w := by
  simp [go_sem]
  (repeat' split) <;> simp_all
theorem neqId3 (a b c d e f : Int) (w : World) : (binOp .neq 38 (.agg #[nI a, nI b, nI c]) (.agg #[nI d, nI e, nI f])).run Try.prog w = .ok (.bool (!decide ((⟨a, b, c⟩ : IdR) = ⟨d, e, f⟩))) w := by
  simp [go_sem]
  (repeat' split) <;> simp_all
theorem eqBd (x y : BdR) (w : World) : (binOp .eql 40 x.v y.v).run Try.prog w = .ok (.bool (decide (x = y))) w := by
  obtain ⟨⟨a, b, c⟩, d, e, f, g, h, i, j, k⟩ := x
  obtain ⟨⟨a', b', c'⟩, d', e', f', g', h', i', j', k'⟩ := y
  simp [go_sem]
  (repeat' split) <;> simp_all
theorem neqBd (x y : BdR) (w : World) : (binOp .neq 40 x.v y.v).run Try.prog w = .ok (.bool (!decide (x = y))) w := by
  obtain ⟨⟨a, b, c⟩, d, e, f, g, h, i, j, k⟩ := x
  obtain ⟨⟨a', b', c'⟩, d', e', f', g', h', i', j', k'⟩ := y
  simp [go_sem]
  (repeat' split) <;> simp_all
end Go.Proofs.Ytkdagljoiacaaaa
