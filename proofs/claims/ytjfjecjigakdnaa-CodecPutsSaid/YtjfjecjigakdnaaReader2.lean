/- octet.Reader: Text, Count, Left, Done. -/
import Derived.Test.YtjfjecjigakdnaaReader
set_option linter.unusedSimpArgs false
set_option linter.unusedVariables false
namespace Go.Proofs.Ytjfjecjigakdnaa.Octs
open Go.RowKit
theorem rInt_size (s : ByteArray) (b : Bool) : (rInt s b).2.1.size ≤ s.size := by
  unfold rInt
  repeat' split
  · exact Nat.le_refl _
  · rw [ByteArray.size_extract]; omega
  · exact Nat.zero_le _
theorem head_in (s : ByteArray) (h : headOk s) : In64 (headN s) := by
  have h1 := h.2.2.2.2
  have h2 : headN s = -(headD s : Int) - 1 ∨ headN s = (headD s : Int) := by unfold headN; split <;> simp
  unfold In64
  rcases h2 with h2 | h2 <;> rw [h2] <;> omega
theorem rInt_in (s : ByteArray) (b : Bool) : In64 (rInt s b).1 := by
  unfold rInt
  repeat' split
  · simp [In64]
  · exact head_in s (by assumption)
  · simp [In64]
/-- read: w' has the reader at its new state -/
theorem RdPost.out {w : World} {N : Nat} {v : Value} {s : ByteArray} {b : Bool} {e : Ending} {w' : World} (h : RdPost w N v s b e w') : e = .returned v ∧ RdAt w' N s b ∧ Upd w w' N := h
section
variable (w : World) (N : Nat) (s : ByteArray) (b : Bool)
set_option maxRecDepth 100000 in
theorem rdCount (most : Int) (h : RdAt w N s b) (hs : s.size ≤ 1000000000) :
    Calls Try.prog 66 #[rdV N, .int .i64 most] w (RdPost w N (.int .i64 (rCount s b most).1) (rCount s b most).2.1 (rCount s b most).2.2) := by
  have hC := rdInt w N s b h hs
  have hE : rCount s b most = rCount s b most := rfl
  conv at hE => rhs; unfold rCount
  rw [hE]
  clear hE h
  generalize rInt s b = t at *
  obtain ⟨n, s', b'⟩ := t
  simp only at hC ⊢
  replace hC := Lib.hid hC
  by_cases hc : n < 0 ∨ most < n
  · rw [if_pos hc]
    go_enter Try.func66, Try.ntmps66
    by_cases hn1 : n < 0
    · go_wp2_with (first | (go_at_call 54; (with_reducible refine hC.out.mono ?_); rintro e w' ⟨rfl, hr, hu⟩; obtain ⟨lt, c0, c1, f0, f1⟩ := hr; haveI : InW N w' := ⟨lt⟩))
      go_ret
      exact ⟨rfl, (RdAt.set1 ⟨lt, c0, c1, f0, f1⟩ _).set0 _, (hu.setCell _ _).setCell _ _⟩
    · have hn3 : most < n := by omega
      go_wp2_with (first | (go_at_call 54; (with_reducible refine hC.out.mono ?_); rintro e w' ⟨rfl, hr, hu⟩; obtain ⟨lt, c0, c1, f0, f1⟩ := hr; haveI : InW N w' := ⟨lt⟩))
      go_ret
      exact ⟨rfl, (RdAt.set1 ⟨lt, c0, c1, f0, f1⟩ _).set0 _, (hu.setCell _ _).setCell _ _⟩
  · rw [if_neg hc]
    have hn1 : ¬ n < 0 := by omega
    have hn3 : ¬ most < n := by omega
    clear hc
    go_enter Try.func66, Try.ntmps66
    go_wp2_with (first | (go_at_call 54; (with_reducible refine hC.out.mono ?_); rintro e w' ⟨rfl, hr, hu⟩; obtain ⟨lt, c0, c1, f0, f1⟩ := hr; haveI : InW N w' := ⟨lt⟩))
    go_ret
    exact ⟨rfl, ⟨lt, c0, c1, f0, f1⟩, hu⟩
set_option maxRecDepth 100000 in
theorem rdLeft (h : RdAt w N s b) (hs : s.size ≤ 1000000000) :
    Calls Try.prog 58 #[rdV N] w fun e w' => e = .returned (.int .i64 (s.size : Int)) ∧ w.Plus w' := by
  obtain ⟨lt, c0, c1, f0, f1⟩ := h
  haveI : InW N w := ⟨lt⟩
  have hz : wrap64 (s.size : Int) = s.size := w64_id (by omega) (by omega)
  go_enter Try.func58, Try.ntmps58
  go_wp2_with fail
  go_ret
  exact ⟨rfl, by (repeat (first | exact Plus.refl _ | apply Plus.plus | apply Plus.alloc | apply Plus.drew))⟩
def rDone (s : ByteArray) (b : Bool) : Int := if b ∨ s ≠ ⟨#[]⟩ then 2 else 0
set_option maxRecDepth 100000 in
theorem rdDone (h : RdAt w N s b) :
    Calls Try.prog 59 #[rdV N] w fun e w' => e = .returned (.int .i64 (rDone s b)) ∧ w.Plus w' := by
  obtain ⟨lt, c0, c1, f0, f1⟩ := h
  haveI : InW N w := ⟨lt⟩
  have hR : rDone s b = if b ∨ s ≠ ⟨#[]⟩ then 2 else 0 := rfl
  generalize rDone s b = R at *
  cases b with
  | true =>
    obtain rfl : R = 2 := by rw [hR]; simp
    clear hR
    go_enter Try.func59, Try.ntmps59
    go_wp2_with fail
    go_ret
    exact ⟨rfl, by (repeat (first | exact Plus.refl _ | apply Plus.plus | apply Plus.alloc | apply Plus.drew))⟩
  | false =>
    by_cases hz : s = ⟨#[]⟩
    · obtain rfl : R = 0 := by rw [hR]; simp [hz]
      clear hR
      subst hz
      go_enter Try.func59, Try.ntmps59
      go_wp2_with fail
      go_ret
      exact ⟨rfl, by (repeat (first | exact Plus.refl _ | apply Plus.plus | apply Plus.alloc | apply Plus.drew))⟩
    · obtain rfl : R = 2 := by rw [hR]; simp [hz]
      clear hR
      have hz2 : s.toList.isEmpty = false := by
        rw [← decide_eq_emptyBytes, decide_eq_false_iff_not]; exact hz
      go_enter Try.func59, Try.ntmps59
      go_wp2_with fail
      go_ret
      exact ⟨rfl, by (repeat (first | exact Plus.refl _ | apply Plus.plus | apply Plus.alloc | apply Plus.drew))⟩
set_option maxRecDepth 100000 in
theorem count_nil (most : Int) : Calls Try.prog 66 #[.pointer none, .int .i64 most] w fun e w' => e = .returned (.int .i64 0) ∧ w.Plus w' := by
  have hC := fun w => Lib.hid (int_nil w)
  go_enter Try.func66, Try.ntmps66
  go_wp2_with (first | (go_at_call 54; (with_reducible refine (hC _).out.mono ?_); rintro e w' ⟨rfl, ex, rfl⟩))
  go_ret
  exact ⟨rfl, by (repeat (first | exact Plus.refl _ | apply Plus.plus | apply Plus.alloc | apply Plus.drew))⟩
set_option maxRecDepth 100000 in
theorem left_nil : Calls Try.prog 58 #[.pointer none] w fun e w' => e = .returned (.int .i64 0) ∧ w.Plus w' := by
  go_enter Try.func58, Try.ntmps58
  go_wp2_with fail
  go_ret
  exact ⟨rfl, by (repeat (first | exact Plus.refl _ | apply Plus.plus | apply Plus.alloc | apply Plus.drew))⟩
set_option maxRecDepth 100000 in
theorem done_nil : Calls Try.prog 59 #[.pointer none] w fun e w' => e = .returned (.int .i64 2) ∧ w.Plus w' := by
  go_enter Try.func59, Try.ntmps59
  go_wp2_with fail
  go_ret
  exact ⟨rfl, by (repeat (first | exact Plus.refl _ | apply Plus.plus | apply Plus.alloc | apply Plus.drew))⟩
end
end Go.Proofs.Ytjfjecjigakdnaa.Octs
