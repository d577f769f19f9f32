/- octet.Reader: walks. -/
import Derived.Test.YtjfjecjigakdnaaHead1
set_option linter.unusedSimpArgs false
set_option linter.unusedVariables false
namespace Go.Proofs.Ytjfjecjigakdnaa.Octs
open Go.RowKit
/-- a reader that lies in a world -/
structure RdAt (w : World) (N : Nat) (s : ByteArray) (b : Bool) : Prop where
  lt : N < w.heap.size
  c0 : w.cell? ⟨N, 0, none⟩ = some (.string s)
  c1 : w.cell? ⟨N, 1, none⟩ = some (.bool b)
  f0 : w.frozen? ⟨N, 0, none⟩ = false
  f1 : w.frozen? ⟨N, 1, none⟩ = false
/-- w', grown out of w but for block N -/
structure Upd (w w' : World) (N : Nat) : Prop where
  os : w'.os = w.os
  tape : w'.tape = w.tape
  output : w'.output = w.output
  size : w.heap.size ≤ w'.heap.size
  block : ∀ k, k < w.heap.size → k ≠ N → w'.heap[k]? = w.heap[k]?
theorem Upd.refl (w : World) (N : Nat) : Upd w w N := ⟨rfl, rfl, rfl, Nat.le_refl _, fun _ _ _ => rfl⟩
theorem Upd.trans {w w' w'' : World} {N : Nat} (h : Upd w w' N) (k : Upd w' w'' N) : Upd w w'' N :=
  ⟨k.os.trans h.os, k.tape.trans h.tape, k.output.trans h.output, Nat.le_trans h.size k.size, fun i hi hn => (k.block i (Nat.lt_of_lt_of_le hi h.size) hn).trans (h.block i hi hn)⟩
theorem Upd.plus {w w' : World} {N : Nat} (h : Upd w w' N) (e : Ext) : Upd w (w'.plus e) N :=
  h.trans ⟨rfl, rfl, rfl, by rw [World.size_plus_eq]; omega, fun i hi _ => w'.plus_block e hi⟩
theorem Upd.setCell {w w' : World} {N : Nat} (h : Upd w w' N) (i : Nat) (v : Value) : Upd w (w'.setCell ⟨N, i, none⟩ v) N :=
  h.trans ⟨rfl, rfl, rfl, by rw [World.size_setCell]; exact Nat.le_refl _, fun k hk hn => by
    simp only [World.setCell]
    rw [Array.getElem?_modify, if_neg (fun e => hn e.symm)]⟩
theorem Upd.toPlus {W0 w w' : World} {N : Nat} (h : Upd w w' N) (hp : W0.Plus w) (hN : W0.heap.size ≤ N) : W0.Plus w' := by
  have hb := Plus.below hp
  exact plus_of_below ⟨h.os.trans hb.os, h.tape.trans hb.tape, h.output.trans hb.output, Nat.le_trans hb.size h.size, fun k hk =>
    (h.block k (Nat.lt_of_lt_of_le hk hb.size) (by omega)).trans (hb.block k hk)⟩
theorem Upd.rd {w w' : World} {N M : Nat} {s : ByteArray} {b : Bool} (h : Upd w w' N) (hne : M ≠ N) (hr : RdAt w M s b) : RdAt w' M s b := by
  have hb := h.block M hr.lt hne
  exact ⟨Nat.lt_of_lt_of_le hr.lt h.size, (World.cell?_of_block (w := w) (a := ⟨M, 0, none⟩) hb).trans hr.c0, (World.cell?_of_block (w := w) (a := ⟨M, 1, none⟩) hb).trans hr.c1,
    (World.frozen?_of_block (w := w) (a := ⟨M, 0, none⟩) hb).trans hr.f0, (World.frozen?_of_block (w := w) (a := ⟨M, 1, none⟩) hb).trans hr.f1⟩
theorem RdAt.plus {w : World} {N : Nat} {s : ByteArray} {b : Bool} (h : RdAt w N s b) (e : Ext) : RdAt (w.plus e) N s b := by
  haveI : InW N w := ⟨h.lt⟩
  exact ⟨by rw [World.size_plus_eq]; have := h.lt; omega, by rw [World.cell?_plus]; exact h.c0, by rw [World.cell?_plus]; exact h.c1, by rw [World.frozen?_plus]; exact h.f0, by rw [World.frozen?_plus]; exact h.f1⟩
theorem RdAt.set0 {w : World} {N : Nat} {s : ByteArray} {b : Bool} (h : RdAt w N s b) (s' : ByteArray) : RdAt (w.setCell ⟨N, 0, none⟩ (.string s')) N s' b := by
  obtain ⟨lt, c0, c1, f0, f1⟩ := h
  refine ⟨by rw [World.size_setCell]; exact lt, ?_, ?_, ?_, ?_⟩
  all_goals simp [go_sem, c0, c1, f0, f1]
theorem RdAt.set1 {w : World} {N : Nat} {s : ByteArray} {b : Bool} (h : RdAt w N s b) (b' : Bool) : RdAt (w.setCell ⟨N, 1, none⟩ (.bool b')) N s b' := by
  obtain ⟨lt, c0, c1, f0, f1⟩ := h
  refine ⟨by rw [World.size_setCell]; exact lt, ?_, ?_, ?_, ?_⟩
  all_goals simp [go_sem, c0, c1, f0, f1]
abbrev rdV (n : Nat) : Value := .pointer (some ⟨n, 0, none⟩)
/-- what a reader reads as a number, and its state behind that -/
def rInt (s : ByteArray) (b : Bool) : Int × ByteArray × Bool := if b then (0, s, true) else if headOk s then (headN s, s.extract (1 + headK s) s.size, false) else (0, ⟨#[]⟩, true)
def rText (s : ByteArray) (b : Bool) : ByteArray × ByteArray × Bool :=
  if (rInt s b).2.2 then (⟨#[]⟩, (rInt s b).2.1, true)
  else if (rInt s b).1 < 0 ∨ 65536 < (rInt s b).1 ∨ ((rInt s b).2.1.size : Int) < (rInt s b).1 then (⟨#[]⟩, ⟨#[]⟩, true)
  else ((rInt s b).2.1.extract 0 (rInt s b).1.toNat, (rInt s b).2.1.extract (rInt s b).1.toNat (rInt s b).2.1.size, false)
def rCount (s : ByteArray) (b : Bool) (most : Int) : Int × ByteArray × Bool :=
  if (rInt s b).1 < 0 ∨ most < (rInt s b).1 then (0, ⟨#[]⟩, true) else rInt s b
def RdPost (w : World) (N : Nat) (v : Value) (s : ByteArray) (b : Bool) (e : Ending) (w' : World) : Prop := e = .returned v ∧ RdAt w' N s b ∧ Upd w w' N
theorem head_any (s : ByteArray) (w : World) (hs : s.size ≤ 1000000000) :
    Calls Try.prog 92 #[.string s] w fun e w' => e = .returned (headV s) ∧ w.Plus w' := by
  by_cases h : 0 < s.size ∧ headK s ≤ 8 ∧ headK s < s.size
  · exact head_good s w hs h.1 h.2.1 h.2.2
  · exact head_bad s w hs h
section
variable (w : World) (N : Nat) (s : ByteArray) (b : Bool)
set_option maxRecDepth 100000 in
theorem of_new (hs : s.size ≤ 1000000000) : Calls Try.prog 18 #[.string s] w fun e w' => ∃ N, e = .returned (rdV N) ∧ w.heap.size ≤ N ∧ RdAt w' N s false ∧ w.Plus w' := by
  go_enter Try.func18, Try.ntmps18
  go_wp2_with fail
  go_ret
  refine ⟨_, rfl, Nat.le_refl _, ⟨?_, ?_, ?_, ?_, ?_⟩, by (repeat (first | exact Plus.refl _ | apply Plus.plus | apply Plus.alloc | apply Plus.drew))⟩
  all_goals simp [go_sem]
set_option maxRecDepth 100000 in
theorem rdInt (h : RdAt w N s b) (hs : s.size ≤ 1000000000) :
    Calls Try.prog 54 #[rdV N] w (RdPost w N (.int .i64 (rInt s b).1) (rInt s b).2.1 (rInt s b).2.2) := by
  have hr := h
  obtain ⟨lt, c0, c1, f0, f1⟩ := h
  haveI : InW N w := ⟨lt⟩
  cases b with
  | true =>
    have hE : rInt s true = (0, s, true) := rfl
    rw [hE]
    replace hr := Lib.hid hr
    go_enter Try.func54, Try.ntmps54
    go_wp2_with fail
    go_ret
    exact ⟨rfl, hr.out, Upd.refl _ _⟩
  | false =>
    have hH := fun w => head_any s w hs
    by_cases hok : headOk s
    · have hE : rInt s false = (headN s, s.extract (1 + headK s) s.size, false) := by simp [rInt, hok]
      have hV : headV s = .tuple #[.int .i64 (headN s), .int .i64 (1 + headK s : Nat), .bool true] := if_pos hok
      rw [hE]
      rw [hV] at hH
      have hk := hok.2.2.1
      generalize headN s = n at *
      generalize headK s = k at *
      replace hr := Lib.hid hr
      replace hH := Lib.hid hH
      clear hE hV hok
      have hk1 : 1 + k ≤ s.size := by omega
      go_enter Try.func54, Try.ntmps54
      go_wp2_with (first | (go_at_call 92; (with_reducible refine (hH.out _).mono ?_); rintro e w' ⟨rfl, ey, rfl⟩))
      go_ret
      exact ⟨rfl, (hr.out.set0 _).plus _, ((Upd.refl _ _).setCell _ _).plus _⟩
    · have hE : rInt s false = (0, ⟨#[]⟩, true) := by simp [rInt, hok]
      have hV : headV s = .tuple #[.int .i64 0, .int .i64 0, .bool false] := if_neg hok
      rw [hE]
      rw [hV] at hH
      replace hr := Lib.hid hr
      replace hH := Lib.hid hH
      clear hE hV hok
      go_enter Try.func54, Try.ntmps54
      go_wp2_with (first | (go_at_call 92; (with_reducible refine (hH.out _).mono ?_); rintro e w' ⟨rfl, ey, rfl⟩))
      go_ret
      exact ⟨rfl, ((hr.out.set1 _).set0 _).plus _, (((Upd.refl _ _).setCell _ _).setCell _ _).plus _⟩
set_option maxRecDepth 100000 in
theorem int_nil : Calls Try.prog 54 #[.pointer none] w fun e w' => e = .returned (.int .i64 0) ∧ w.Plus w' := by
  go_enter Try.func54, Try.ntmps54
  go_wp2_with fail
  go_ret
  exact ⟨rfl, by (repeat (first | exact Plus.refl _ | apply Plus.plus | apply Plus.alloc | apply Plus.drew))⟩
end
end Go.Proofs.Ytjfjecjigakdnaa.Octs
