/- codec: what is read: plain laws. -/
import Derived.Test.YtjfjecjigakdnaaCod5
set_option linter.unusedSimpArgs false
set_option linter.unusedVariables false
namespace Go.Proofs.Ytjfjecjigakdnaa
open Go.RowKit
/-- what sound answers -/
def snd {α : Type} (ok : Bool) (z x : α) (s : ByteArray) (b : Bool) : α × ByteArray × Bool := if b || !ok then (z, ⟨#[]⟩, true) else (x, s, false)
def rs3 (s : ByteArray) (b : Bool) : IdR × ByteArray × Bool :=
  let p := Octs.rInt s b
  let q := Octs.rInt p.2.1 p.2.2
  let r := Octs.rInt q.2.1 q.2.2
  (⟨p.1, q.1, r.1⟩, r.2.1, r.2.2)
def tkI (s : ByteArray) (b : Bool) : IdR × ByteArray × Bool := snd (idB (rs3 s b).1) idZ (rs3 s b).1 (rs3 s b).2.1 (rs3 s b).2.2
def setF (b : BdR) (o : Nat) (x : Int) : BdR :=
  match o with
  | 4 => { b with x := x }
  | 5 => { b with y := x }
  | 6 => { b with vx := x }
  | 7 => { b with vy := x }
  | 8 => { b with hp := x }
  | 9 => { b with pw := x }
  | _ => { b with lf := x }
def stepB (t : BdR × ByteArray × Bool) (o : Nat) : BdR × ByteArray × Bool := (setF t.1 o (Octs.rInt t.2.1 t.2.2).1, (Octs.rInt t.2.1 t.2.2).2.1, (Octs.rInt t.2.1 t.2.2).2.2)
def fillB (t : BdR × ByteArray × Bool) (l : List Nat) : BdR × ByteArray × Bool := l.foldl stepB t
theorem fillB_snoc (t : BdR × ByteArray × Bool) (l : List Nat) (o : Nat) : fillB t (l ++ [o]) = stepB (fillB t l) o := by unfold fillB; rw [List.foldl_append]; rfl
/-- the rest, as it is read -/
def rawR (s : ByteArray) (b : Bool) : BdR × ByteArray × Bool :=
  if (Octs.rInt s b).1 < 0 ∨ 31 < (Octs.rInt s b).1 then (bdZ, ⟨#[]⟩, true)
  else fillB (⟨⟨0, 0, 0⟩, (Octs.rInt s b).1, 0, 0, 0, 0, 0, 0, 0⟩, (Octs.rInt s b).2.1, (Octs.rInt s b).2.2) (offs (Octs.rInt s b).1 7)
def tkR (s : ByteArray) (b : Bool) : BdR × ByteArray × Bool := snd true bdZ (rawR s b).1 (rawR s b).2.1 (rawR s b).2.2
def tkB (s : ByteArray) (b : Bool) : BdR × ByteArray × Bool :=
  let i := tkI s b
  let r := tkR i.2.1 i.2.2
  snd (okB { r.1 with id := i.1 }) bdZ { r.1 with id := i.1 } r.2.1 r.2.2
def inv (t : ByteArray × Bool) : Prop := t.2 = true → t.1 = ⟨#[]⟩
theorem setF_cs (b : BdR) (o : Nat) (x : Int) (h : 4 ≤ o ∧ o ≤ 10) : (setF b o x).cs = b.cs.set o (nI x) := by
  rcases (by omega : o = 4 ∨ o = 5 ∨ o = 6 ∨ o = 7 ∨ o = 8 ∨ o = 9 ∨ o = 10) with rfl | rfl | rfl | rfl | rfl | rfl | rfl <;> rfl
theorem fill_mask (t : BdR × ByteArray × Bool) (l : List Nat) : (fillB t l).1.mask = t.1.mask ∧ (fillB t l).1.id = t.1.id := by
  induction l generalizing t with
  | nil => exact ⟨rfl, rfl⟩
  | cons o r ih =>
    have := ih (stepB t o)
    have e : (stepB t o).1.mask = t.1.mask ∧ (stepB t o).1.id = t.1.id := by
      unfold stepB setF
      split <;> exact ⟨rfl, rfl⟩
    exact ⟨this.1.trans e.1, this.2.trans e.2⟩
theorem rInt_inv2 (s : ByteArray) (b : Bool) (h : inv (s, b)) : inv ((Octs.rInt s b).2.1, (Octs.rInt s b).2.2) := Octs.rInt_inv s b h
theorem fill_inv (t : BdR × ByteArray × Bool) (l : List Nat) (h : inv (t.2.1, t.2.2)) : inv ((fillB t l).2.1, (fillB t l).2.2) := by
  induction l generalizing t with
  | nil => exact h
  | cons o r ih => exact ih (stepB t o) (rInt_inv2 _ _ h)
theorem fill_size (t : BdR × ByteArray × Bool) (l : List Nat) : (fillB t l).2.1.size ≤ t.2.1.size := by
  induction l generalizing t with
  | nil => exact Nat.le_refl _
  | cons o r ih => exact Nat.le_trans (ih (stepB t o)) (Octs.rInt_size _ _)
theorem rs3_inv (s : ByteArray) (b : Bool) (h : inv (s, b)) : inv ((rs3 s b).2.1, (rs3 s b).2.2) := rInt_inv2 _ _ (rInt_inv2 _ _ (rInt_inv2 _ _ h))
theorem rs3_size (s : ByteArray) (b : Bool) : (rs3 s b).2.1.size ≤ s.size := Nat.le_trans (Octs.rInt_size _ _) (Nat.le_trans (Octs.rInt_size _ _) (Octs.rInt_size _ _))
theorem snd_inv {α : Type} (ok : Bool) (z x : α) (s : ByteArray) (b : Bool) : inv ((snd ok z x s b).2.1, (snd ok z x s b).2.2) := by
  unfold snd
  split
  · intro _; rfl
  · intro h; cases h
theorem snd_size {α : Type} (ok : Bool) (z x : α) (s : ByteArray) (b : Bool) : (snd ok z x s b).2.1.size ≤ s.size := by
  unfold snd
  split
  · exact Nat.zero_le _
  · exact Nat.le_refl _
theorem rCount_neg (s : ByteArray) (b : Bool) : Octs.rCount s b (-1) = (0, ⟨#[]⟩, true) := by
  unfold Octs.rCount
  rw [if_pos (by omega)]
theorem Octs.empty_of_size {s : ByteArray} (h : s.size = 0) : s = ⟨#[]⟩ := by
  cases s with
  | mk d =>
    have : d.size = 0 := h
    rw [Array.eq_empty_of_size_eq_zero this]
theorem Octs.RdAt.plusP {w wz : World} {N : Nat} {s : ByteArray} {b : Bool} (h : Octs.RdAt w N s b) (p : w.Plus wz) : Octs.RdAt wz N s b := by
  obtain ⟨e, rfl⟩ := p
  exact h.plus e
end Go.Proofs.Ytjfjecjigakdnaa
