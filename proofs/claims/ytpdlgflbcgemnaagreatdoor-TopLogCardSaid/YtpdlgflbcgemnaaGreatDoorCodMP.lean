/- codec: lists that are read: plain laws. -/
import Derived.Test.YtpdlgflbcgemnaaGreatDoorGi
import Derived.Test.YtpdlgflbcgemnaaGreatDoorGd
set_option linter.unusedSimpArgs false
set_option linter.unusedVariables false
set_option maxRecDepth 100000
namespace Go.Proofs.YtpdlgflbcgemnaaGreatDoor
open Go.RowKit
def tkL {α : Type} (tk : ByteArray → Bool → α × ByteArray × Bool) : Nat → List α → ByteArray → List α × ByteArray × Bool
  | 0, l, s => (l, s, false)
  | n + 1, l, s => if (tk s false).2.2 then ([], ⟨#[]⟩, true) else tkL tk n (l ++ [(tk s false).1]) (tk s false).2.1
/-- what is read of a list -/
def readL {α : Type} (tk : ByteArray → Bool → α × ByteArray × Bool) (s : ByteArray) (b : Bool) (most : Int) : List α × ByteArray × Bool :=
  if (Octs.rCount s b most).2.2 then ([], ⟨#[]⟩, true) else tkL tk (Octs.rCount s b most).1.toNat [] (Octs.rCount s b most).2.1
theorem tkL_inv {α : Type} (tk : ByteArray → Bool → α × ByteArray × Bool) (n : Nat) : ∀ l s, inv ((tkL tk n l s).2.1, (tkL tk n l s).2.2) := by
  induction n with
  | zero => intro l s h; cases h
  | succ n ih =>
    intro l s
    unfold tkL
    split
    · intro _; rfl
    · exact ih _ _
theorem readL_inv {α : Type} (tk : ByteArray → Bool → α × ByteArray × Bool) (s : ByteArray) (b : Bool) (most : Int) : inv ((readL tk s b most).2.1, (readL tk s b most).2.2) := by
  unfold readL
  split
  · intro _; rfl
  · exact tkL_inv tk _ _ _
theorem tkL_size {α : Type} (tk : ByteArray → Bool → α × ByteArray × Bool) (ht : ∀ s b, (tk s b).2.1.size ≤ s.size) (n : Nat) : ∀ l s, (tkL tk n l s).2.1.size ≤ s.size := by
  induction n with
  | zero => intro l s; exact Nat.le_refl _
  | succ n ih =>
    intro l s
    unfold tkL
    split
    · exact Nat.zero_le _
    · exact Nat.le_trans (ih _ _) (ht _ _)
theorem readL_size {α : Type} (tk : ByteArray → Bool → α × ByteArray × Bool) (ht : ∀ s b, (tk s b).2.1.size ≤ s.size) (s : ByteArray) (b : Bool) (most : Int) : (readL tk s b most).2.1.size ≤ s.size := by
  unfold readL
  split
  · exact Nat.zero_le _
  · exact Nat.le_trans (tkL_size tk ht _ _ _) (Octs.rCount_size s b most)
theorem tkL_len {α : Type} (tk : ByteArray → Bool → α × ByteArray × Bool) (n : Nat) : ∀ l s, (tkL tk n l s).1.length ≤ l.length + n := by
  induction n with
  | zero => intro l s; exact Nat.le_refl _
  | succ n ih =>
    intro l s
    unfold tkL
    split
    · exact Nat.zero_le _
    · have := ih (l ++ [(tk s false).1]) (tk s false).2.1
      rw [List.length_append, List.length_singleton] at this
      omega
theorem rCount_le (s : ByteArray) (b : Bool) (most : Int) (h0 : 0 ≤ most) : 0 ≤ (Octs.rCount s b most).1 ∧ (Octs.rCount s b most).1 ≤ most := by
  unfold Octs.rCount
  split
  · exact ⟨Int.le_refl _, h0⟩
  · omega
theorem rCount_bad (s : ByteArray) (b : Bool) (most : Int) : (Octs.rCount s b most).2.2 = true → (Octs.rCount s b most).1 = 0 := by
  unfold Octs.rCount
  split
  · intro _; rfl
  · exact rInt_bad s b
theorem rCount_most (s : ByteArray) (b : Bool) (most m : Int) (h0 : 0 ≤ m) (hm : most ≤ m) : 0 ≤ (Octs.rCount s b most).1 ∧ (Octs.rCount s b most).1 ≤ m := by
  unfold Octs.rCount
  split
  · exact ⟨Int.le_refl _, h0⟩
  · omega
theorem readL_len {α : Type} (tk : ByteArray → Bool → α × ByteArray × Bool) (s : ByteArray) (b : Bool) (most : Int) (h0 : 0 ≤ most) : ((readL tk s b most).1.length : Int) ≤ most := by
  unfold readL
  split
  · exact h0
  · have h1 := tkL_len tk (Octs.rCount s b most).1.toNat [] (Octs.rCount s b most).2.1
    have h2 := rCount_le s b most h0
    rw [List.length_nil] at h1
    omega
theorem rInt_none : Octs.rInt ⟨#[]⟩ false = (0, ⟨#[]⟩, true) := by decide +kernel
theorem rInt_nil : Octs.rInt ⟨#[]⟩ true = (0, ⟨#[]⟩, true) := by decide +kernel
theorem tkI_none (b : Bool) : tkI ⟨#[]⟩ b = (idZ, ⟨#[]⟩, true) := by
  unfold tkI rs3
  cases b
  · simp only [rInt_none, rInt_nil]
    rfl
  · simp only [rInt_nil]
    rfl
theorem tkR_nil : tkR ⟨#[]⟩ true = (bdZ, ⟨#[]⟩, true) := by
  have h : (rawR ⟨#[]⟩ true).2.2 = true := by
    unfold rawR
    rw [rInt_nil]
    rfl
  unfold tkR snd
  rw [h]
  rfl
theorem tkB_none : tkB ⟨#[]⟩ false = (bdZ, ⟨#[]⟩, true) := by
  unfold tkB
  simp only [tkI_none, tkR_nil]
  rfl
theorem tkC_none : tkC ⟨#[]⟩ false = (cmZ, ⟨#[]⟩, true) := by
  unfold tkC
  simp only [rInt_none]
  rfl
theorem flat_len {α : Type} (cs : α → List Value) (n : Nat) (h : ∀ x, (cs x).length = n) (xs : List α) : (xs.flatMap cs).length = xs.length * n := by
  induction xs with
  | nil => simp
  | cons x r ih => rw [List.flatMap_cons, List.length_append, ih, h, List.length_cons, Nat.add_mul]; omega
theorem flat_get {α : Type} (cs : α → List Value) (n : Nat) (h : ∀ x, (cs x).length = n) (xs : List α) : ∀ (i : Nat) (x : α), xs[i]? = some x → ∀ j, j < n → (xs.flatMap cs)[i * n + j]? = (cs x)[j]? := by
  induction xs with
  | nil => intro i x hx; simp at hx
  | cons y r ih =>
    intro i x hx j hj
    rw [List.flatMap_cons]
    cases i with
    | zero =>
      simp at hx
      subst hx
      rw [Nat.zero_mul, Nat.zero_add, List.getElem?_append_left (by rw [h]; exact hj)]
    | succ i =>
      rw [List.getElem?_append_right (by rw [h, Nat.add_mul]; omega), h, show (i + 1) * n + j - n = i * n + j by rw [Nat.add_mul]; omega]
      exact ih i x (by simpa using hx) j hj
theorem flat_snoc {α : Type} (cs : α → List Value) (xs : List α) (x : α) : (xs ++ [x]).flatMap cs = xs.flatMap cs ++ cs x := by simp
theorem slRowsI {w : World} {A : Option Addr} {c n : Nat} {xs : List IdR} (hn : n = xs.length) (h : Sl w 3 (.slice A n c) n (xs.flatMap IdR.cs)) : RowsAt w A 3 n (rowFI xs) :=
  h.rows rfl (rowFI xs) fun i j hi hj => by
    have hx : xs[i]? = some (xs.getD i idZ) := by rw [List.getD_eq_getElem?_getD, List.getElem?_eq_getElem (by omega)]; rfl
    rw [flat_get IdR.cs 3 (fun _ => rfl) xs i _ hx j hj]
    unfold rowFI
    obtain ⟨x, hxx⟩ : ∃ x, x = xs.getD i idZ := ⟨_, rfl⟩
    rw [← hxx]
    have hj' : j < x.cs.length := hj
    rw [List.getD_eq_getElem?_getD, List.getElem?_eq_getElem hj']
    rfl
theorem slRowsB {w : World} {A : Option Addr} {c n : Nat} {xs : List BdR} (hn : n = xs.length) (h : Sl w 11 (.slice A n c) n (xs.flatMap BdR.cs)) : RowsAt w A 11 n (rowFB xs) :=
  h.rows rfl (rowFB xs) fun i j hi hj => by
    have hx : xs[i]? = some (xs.getD i bdZ) := by rw [List.getD_eq_getElem?_getD, List.getElem?_eq_getElem (by omega)]; rfl
    rw [flat_get BdR.cs 11 (fun _ => rfl) xs i _ hx j hj]
    unfold rowFB
    obtain ⟨x, hxx⟩ : ∃ x, x = xs.getD i bdZ := ⟨_, rfl⟩
    rw [← hxx]
    have hj' : j < x.cs.length := hj
    rw [List.getD_eq_getElem?_getD, List.getElem?_eq_getElem hj']
    rfl
theorem slRowsC {w : World} {A : Option Addr} {c n : Nat} {xs : List CmdR} (hn : n = xs.length) (h : Sl w 16 (.slice A n c) n (xs.flatMap CmdR.cs)) : RowsAt w A 16 n (rowFC xs) :=
  h.rows rfl (rowFC xs) fun i j hi hj => by
    have hx : xs[i]? = some (xs.getD i cmZ) := by rw [List.getD_eq_getElem?_getD, List.getElem?_eq_getElem (by omega)]; rfl
    rw [flat_get CmdR.cs 16 (fun _ => rfl) xs i _ hx j hj]
    unfold rowFC
    obtain ⟨x, hxx⟩ : ∃ x, x = xs.getD i cmZ := ⟨_, rfl⟩
    rw [← hxx]
    have hj' : j < x.cs.length := hj
    rw [List.getD_eq_getElem?_getD, List.getElem?_eq_getElem hj']
    rfl
end Go.Proofs.YtpdlgflbcgemnaaGreatDoor
