/- octet.Reader: Text, Count, Left, Done. -/
import Derived.Test.YtpmebmbibajcoaaReader
set_option linter.unusedSimpArgs false
set_option linter.unusedVariables false
namespace Go.Proofs.Ytpmebmbibajcoaa.Octs
open Go.RowKit
theorem rInt_size (s : ByteArray) (b : Bool) : (rInt s b).2.1.size ≤ s.size := by
  unfold rInt
  repeat' split
  · exact Nat.le_refl _
  · rw [ByteArray.size_extract]; omega
  · exact Nat.zero_le _
theorem head_in (s : ByteArray) (h : headOk s) : In64 (headN s) := by
  have h1 := h.2.2.2.2
  have h2 : headN s = -(headD s : Int) - 1 ∨ headN s = (headD s : Int) := by unfold headN; split <;> simp
  unfold In64
  rcases h2 with h2 | h2 <;> rw [h2] <;> omega
theorem rInt_in (s : ByteArray) (b : Bool) : In64 (rInt s b).1 := by
  unfold rInt
  repeat' split
  · simp [In64]
  · exact head_in s (by assumption)
  · simp [In64]
/-- read: w' has the reader at its new state -/
theorem RdPost.out {w : World} {N : Nat} {v : Value} {s : ByteArray} {b : Bool} {e : Ending} {w' : World} (h : RdPost w N v s b e w') : e = .returned v ∧ RdAt w' N s b ∧ Upd w w' N := h
section
variable (w : World) (N : Nat) (s : ByteArray) (b : Bool)
set_option maxRecDepth 100000 in
theorem rdText (h : RdAt w N s b) (hs : s.size ≤ 1000000000) :
    Calls Try.prog 42 #[rdV N] w (RdPost w N (.string (rText s b).1) (rText s b).2.1 (rText s b).2.2) := by
  have hC := rdInt w N s b h hs
  have hz := rInt_size s b
  have hin := rInt_in s b
  have hE : rText s b = rText s b := rfl
  conv at hE => rhs; unfold rText
  rw [hE]
  clear hE h
  generalize rInt s b = t at *
  obtain ⟨n, s', b'⟩ := t
  simp only at hC hz hin ⊢
  cases b' with
  | true =>
    rw [if_pos rfl]
    replace hC := Lib.hid hC
    go_enter Try.func42, Try.ntmps42
    go_wp2_with (first | (go_at_call 41; (with_reducible refine hC.out.mono ?_); rintro e w' ⟨rfl, hr, hu⟩; obtain ⟨lt, c0, c1, f0, f1⟩ := hr; haveI : InW N w' := ⟨lt⟩))
    go_ret
    exact ⟨rfl, ⟨lt, c0, c1, f0, f1⟩, hu⟩
  | false =>
    rw [if_neg (by simp)]
    by_cases hc : n < 0 ∨ 65536 < n ∨ (s'.size : Int) < n
    · rw [if_pos hc]
      replace hC := Lib.hid hC
      have hc1 : (decide (n < 0) || decide (65536 < n) || decide ((s'.size : Int) < n)) = true := by simp; omega
      go_enter Try.func42, Try.ntmps42
      by_cases hn1 : n < 0
      · go_wp2_with (first | (go_at_call 41; (with_reducible refine hC.out.mono ?_); rintro e w' ⟨rfl, hr, hu⟩; obtain ⟨lt, c0, c1, f0, f1⟩ := hr; haveI : InW N w' := ⟨lt⟩))
        go_ret
        exact ⟨rfl, (RdAt.set1 ⟨lt, c0, c1, f0, f1⟩ _).set0 _, (hu.setCell _ _).setCell _ _⟩
      · by_cases hn2 : 65536 < n
        · go_wp2_with (first | (go_at_call 41; (with_reducible refine hC.out.mono ?_); rintro e w' ⟨rfl, hr, hu⟩; obtain ⟨lt, c0, c1, f0, f1⟩ := hr; haveI : InW N w' := ⟨lt⟩))
          go_ret
          exact ⟨rfl, (RdAt.set1 ⟨lt, c0, c1, f0, f1⟩ _).set0 _, (hu.setCell _ _).setCell _ _⟩
        · have hn3 : (s'.size : Int) < n := by omega
          go_wp2_with (first | (go_at_call 41; (with_reducible refine hC.out.mono ?_); rintro e w' ⟨rfl, hr, hu⟩; obtain ⟨lt, c0, c1, f0, f1⟩ := hr; haveI : InW N w' := ⟨lt⟩))
          go_ret
          exact ⟨rfl, (RdAt.set1 ⟨lt, c0, c1, f0, f1⟩ _).set0 _, (hu.setCell _ _).setCell _ _⟩
    · rw [if_neg hc]
      obtain ⟨m, rfl⟩ : ∃ m : Nat, n = m := ⟨n.toNat, by omega⟩
      have hn1 : ¬ (m : Int) < 0 := by omega
      have hn2 : ¬ (65536 : Int) < m := by omega
      have hn3 : ¬ (s'.size : Int) < m := by omega
      have hm : m ≤ s'.size := by omega
      rw [show (m : Int).toNat = m from rfl]
      clear hc
      replace hC := Lib.hid hC
      go_enter Try.func42, Try.ntmps42
      go_wp2_with (first | (go_at_call 41; (with_reducible refine hC.out.mono ?_); rintro e w' ⟨rfl, hr, hu⟩; obtain ⟨lt, c0, c1, f0, f1⟩ := hr; haveI : InW N w' := ⟨lt⟩))
      go_ret
      exact ⟨rfl, RdAt.set0 ⟨lt, c0, c1, f0, f1⟩ _, hu.setCell _ _⟩
def rDone (s : ByteArray) (b : Bool) : Int := if b ∨ s ≠ ⟨#[]⟩ then 2 else 0
set_option maxRecDepth 100000 in
theorem rdDone (h : RdAt w N s b) :
    Calls Try.prog 43 #[rdV N] w fun e w' => e = .returned (.int .i64 (rDone s b)) ∧ w.Plus w' := by
  obtain ⟨lt, c0, c1, f0, f1⟩ := h
  haveI : InW N w := ⟨lt⟩
  have hR : rDone s b = if b ∨ s ≠ ⟨#[]⟩ then 2 else 0 := rfl
  generalize rDone s b = R at *
  cases b with
  | true =>
    obtain rfl : R = 2 := by rw [hR]; simp
    clear hR
    go_enter Try.func43, Try.ntmps43
    go_wp2_with fail
    go_ret
    exact ⟨rfl, by (repeat (first | exact Plus.refl _ | apply Plus.plus | apply Plus.alloc | apply Plus.drew))⟩
  | false =>
    by_cases hz : s = ⟨#[]⟩
    · obtain rfl : R = 0 := by rw [hR]; simp [hz]
      clear hR
      subst hz
      go_enter Try.func43, Try.ntmps43
      go_wp2_with fail
      go_ret
      exact ⟨rfl, by (repeat (first | exact Plus.refl _ | apply Plus.plus | apply Plus.alloc | apply Plus.drew))⟩
    · obtain rfl : R = 2 := by rw [hR]; simp [hz]
      clear hR
      have hz2 : s.toList.isEmpty = false := by
        rw [← decide_eq_emptyBytes, decide_eq_false_iff_not]; exact hz
      go_enter Try.func43, Try.ntmps43
      go_wp2_with fail
      go_ret
      exact ⟨rfl, by (repeat (first | exact Plus.refl _ | apply Plus.plus | apply Plus.alloc | apply Plus.drew))⟩
set_option maxRecDepth 100000 in
theorem text_nil : Calls Try.prog 42 #[.pointer none] w fun e w' => e = .returned (.string ⟨#[]⟩) ∧ w.Plus w' := by
  have hC := fun w => Lib.hid (int_nil w)
  go_enter Try.func42, Try.ntmps42
  go_wp2_with (first | (go_at_call 41; (with_reducible refine (hC _).out.mono ?_); rintro e w' ⟨rfl, ex, rfl⟩))
  go_ret
  exact ⟨rfl, by (repeat (first | exact Plus.refl _ | apply Plus.plus | apply Plus.alloc | apply Plus.drew))⟩
set_option maxRecDepth 100000 in
theorem done_nil : Calls Try.prog 43 #[.pointer none] w fun e w' => e = .returned (.int .i64 2) ∧ w.Plus w' := by
  go_enter Try.func43, Try.ntmps43
  go_wp2_with fail
  go_ret
  exact ⟨rfl, by (repeat (first | exact Plus.refl _ | apply Plus.plus | apply Plus.alloc | apply Plus.drew))⟩
end
end Go.Proofs.Ytpmebmbibajcoaa.Octs
